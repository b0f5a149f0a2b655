/- Parts of the proof, in order. -/
import Derived.Lib.Bytealg
import Derived.Lib.Hide
import Derived.Lib.Slices
import Derived.Lib.Strings
import Derived.Lib.Walk
import Derived.Test.YtbdlhiogjnbhjaaGreatAbsY
import Derived.Test.YtbdlhiogjnbhjaaGreatAbsZ
import Derived.Test.YtbdlhiogjnbhjaaGreatCst
import Derived.Test.YtbdlhiogjnbhjaaGreatEk
import Derived.Test.YtbdlhiogjnbhjaaGreatGrow
import Derived.Test.YtbdlhiogjnbhjaaGreatLay
import Derived.Test.YtbdlhiogjnbhjaaGreatLoop
import Derived.Test.YtbdlhiogjnbhjaaGreatSort
import Derived.Test.YtbdlhiogjnbhjaaGreatSort1
import Derived.Test.YtbdlhiogjnbhjaaGreatTab
import Derived.Test.YtbdlhiogjnbhjaaGreatWrap

namespace Go.Proofs.YtbdlhiogjnbhjaaGreat
set_option linter.unusedVariables false
set_option linter.unusedSimpArgs false
open Abs

abbrev PCp := PCs Tryz.prog
abbrev PCq := PCx Tryz.prog
def mts : List Nat := [28, 93, 95, 26, 131, 180, 144, 139, 6, 7, 80, 137, 171, 172, 173, 175, 176, 177, 178, 196, 22, 60, 99, 42, 164]

theorem finb {m : Nat} {a b : Bool} {os : List Ob} (h : a = b) : FinR m (.c (.bool b)) os (.c (.bool a)) os := .mk ⟨by rw [h], rfl⟩
theorem fini {m : Nat} {k : IntKind} {a b : Int} {os : List Ob} (h : a = b) : FinR m (.c (.int k b)) os (.c (.int k a)) os := .mk ⟨by rw [h], rfl⟩

set_option maxRecDepth 100000 in
set_option maxHeartbeats 4000000 in
theorem bOut_pc (n lo hi : Int) : PCp 87 [.c (.int .i64 n), .c (.int .i64 lo), .c (.int .i64 hi)] [] (.c (.bool (decide (n < lo ∨ hi < n)))) [] := by
  refine fn_sound (mt := mts) tab_fits tab_mixed Tryz.func87 (by rfl) (by kernel_rfl) (by kernel_rfl) Tryz.results87 (Nat.le_of_ble_eq_true (by kernel_rfl)) ?_
  conv => whnf
  repeat' (first | (refine Split.mk (fun h => ?_) (fun h => ?_) <;> (try simp only [decide_eq_true_eq, decide_eq_false_iff_not, Bool.not_eq_true', Bool.not_eq_false', beq_iff_eq, beq_eq_false_iff_ne] at h) <;> (first | (exfalso; first | omega | exact h trivial) | (conv => whnf))) | fail)
  all_goals exact finb (by simp_all <;> omega)
set_option maxRecDepth 100000 in
set_option maxHeartbeats 4000000 in
theorem rIn_pc (n lo hi : Int) : PCp 45 [.c (.int .i64 n), .c (.int .i64 lo), .c (.int .i64 hi)] [] (.c (.bool (decide (lo ≤ n ∧ n ≤ hi)))) [] := by
  refine fn_sound (mt := mts) tab_fits tab_mixed Tryz.func45 (by rfl) (by kernel_rfl) (by kernel_rfl) Tryz.results45 (Nat.le_of_ble_eq_true (by kernel_rfl)) ?_
  conv => whnf
  repeat' (first | (refine Split.mk (fun h => ?_) (fun h => ?_) <;> (try simp only [decide_eq_true_eq, decide_eq_false_iff_not, Bool.not_eq_true', Bool.not_eq_false', beq_iff_eq, beq_eq_false_iff_ne] at h) <;> (first | (exfalso; first | omega | exact h trivial) | (conv => whnf))) | fail)
  all_goals exact finb (by simp_all <;> omega)
def isKeyC (c : Int) : Bool := decide (97 ≤ c ∧ c ≤ 122) || (decide (48 ≤ c ∧ c ≤ 57) || (c == 45 || c == 95))
def keyB (s : ByteArray) : Bool := decide (0 < s.size ∧ s.size ≤ 40 ∧ 97 ≤ byteAt s 0 ∧ byteAt s 0 ≤ 122 ∧ ∀ i, i < s.size → isKeyC (byteAt s i) = true)
theorem all_succ {p : Nat → Prop} {k : Nat} (h : ∀ i, i < k → p i) (hk : p k) : ∀ i, i < k + 1 → p i := fun i hi => by
  rcases Nat.lt_or_ge i k with h1 | h1
  · exact h i h1
  · have : i = k := by omega
    subst this; exact hk
theorem size_nil (s : ByteArray) : (s.toList == (⟨#[]⟩ : ByteArray).toList) = decide (s.size = 0) := by
  rw [ByteArray.toList_eq, ByteArray.toList_eq]
  obtain ⟨⟨x⟩⟩ := s
  cases x with
  | nil => rfl
  | cons a r => rfl
set_option maxRecDepth 100000 in
set_option maxHeartbeats 4000000 in
theorem bKey_pc (s : ByteArray) : PCp 18 [.c (.str s)] [] (.c (.bool (keyB s))) [] := by
  refine fn_sound (mt := mts) tab_fits tab_mixed Tryz.func18 (by rfl) (by kernel_rfl) (by kernel_rfl) Tryz.results18 (Nat.le_of_ble_eq_true (by kernel_rfl)) ?_
  conv => whnf
  rw [size_nil]
  repeat' (first | (refine .mk (fun h => ?_) (fun h => ?_) <;> (try simp only [decide_eq_true_eq, decide_eq_false_iff_not, Bool.not_eq_true', Bool.not_eq_false', beq_iff_eq, beq_eq_false_iff_ne] at h) <;> (first | (exfalso; first | omega | exact h trivial) | (conv => whnf))) | (refine .mk (by first | omega | (unfold roomOK; simp [cutRows]; done) | (unfold roomOK; simp [cutRows]; omega)) ?_; conv => whnf) | fail)
  all_goals try exact finb (by simp_all [keyB] <;> omega)
  refine loop_count (s.size) [] [0, 23, 24] (fun k (_ : Unit) => ⟨[(0, .c (.str s)), (23, .c (.int .i64 s.size)), (24, .c (.int .i64 k))], [], 0⟩) (fun k (_ : Unit) => ∀ i, i < k → isKeyC (byteAt s i) = true) (()) ?_ ?_ ?_
  · conv => whnf
    exact ⟨rfl, by simp⟩
  · intro k _ hk hi
    conv => whnf
    repeat' (first | (refine .mk (fun h => ?_) (fun h => ?_) <;> (try simp only [decide_eq_true_eq, decide_eq_false_iff_not, Bool.not_eq_true', Bool.not_eq_false', beq_iff_eq, beq_eq_false_iff_ne] at h) <;> (first | (exfalso; first | omega | exact h trivial) | (conv => whnf))) | (refine .mk (by first | omega | (unfold roomOK; simp [cutRows]; done) | (unfold roomOK; simp [cutRows]; omega)) ?_; conv => whnf) | fail)
    all_goals first
      | exact finb (by rw [eq_comm, keyB, decide_eq_false_iff_not]; intro hh; have h5 := hh.2.2.2.2 k hk; simp_all [isKeyC] <;> omega)
      | skip
    all_goals (refine count_next () hk (by rw [wrap_succ hk (by omega)]; rfl) (all_succ hi ?_); simp_all [isKeyC] <;> omega)
  · intro _ hi
    conv => whnf
    repeat' (first | (refine CondG.mk (fun h => ?_) (fun h => ?_) <;> (try simp only [decide_eq_true_eq, decide_eq_false_iff_not, Bool.not_eq_true', Bool.not_eq_false', beq_iff_eq, beq_eq_false_iff_ne] at h) <;> (first | (exfalso; first | omega | exact h trivial) | (conv => whnf))) | fail)
    exact finb (by rw [eq_comm, keyB, decide_eq_true_iff]; exact ⟨by omega, by omega, by simp_all <;> omega, by simp_all <;> omega, hi⟩)

theorem PCs.of_same {P : Program} {f : Nat} {args : List S} {r : S} {cargs : Array Value} {c : Value} (hfn : ∃ fn, P.funcs[f]? = some fn ∧ (fn.name == "runtime.NumGoroutine") = false ∧ fn.body.isNone = false)
    (ha : ∀ (F : Nat → Prop) (φ : Nat → Option Value) (w : World) (cs : Array Value), P2 (RS F φ w) cs.toList args → cs = cargs) (hr : ∀ (F : Nat → Prop) (φ : Nat → Option Value) (w : World), RS F φ w c r) (h : ∀ w, Calls P f cargs w fun e w' => e = .returned c ∧ w' = w) : PCs P f args [] r [] := by
  refine ⟨hfn, fun F φ w cs hp hrp hφ => ?_⟩
  have := ha F φ w cs hp
  subst this
  refine (h w).mono ?_
  rintro e w' ⟨rfl, rfl⟩
  exact ⟨c, F, φ, r, [], ⟨rfl, rfl⟩, rfl, hr F φ w', Nx.refl⟩
theorem args2 {F : Nat → Prop} {φ : Nat → Option Value} {w : World} {cs : Array Value} {s1 s2 : S} {c1 c2 : Value} (h1 : ∀ c, RS F φ w c s1 → c = c1) (h2 : ∀ c, RS F φ w c s2 → c = c2) (hp : P2 (RS F φ w) cs.toList [s1, s2]) : cs = #[c1, c2] := by
  obtain ⟨x, xs, e1, r1, hp⟩ := hp.cons_inv
  obtain ⟨y, ys, e2, r2, hp⟩ := hp.cons_inv
  have := hp.nil_inv
  subst this
  subst e2
  apply Array.ext'
  rw [e1, h1 x r1, h2 y r2]

set_option maxHeartbeats 1000000 in
set_option maxRecDepth 100000 in
theorem slIndexByte_calls (s : ByteArray) (c : Int) (w : World) :
    Calls Tryz.prog 179 #[.string s, .int .u8 c] w fun e w' => e = .returned (.int .i64 (Lib.indexByte s.data.toList c.toNat.toUInt8)) ∧ w' = w := by
  go_enter Tryz.func179, Tryz.ntmps179
  go_wp2
  rw [run_callFunc_extern Tryz.func199 (by kernel_rfl) (by kernel_rfl) (by kernel_rfl) (e := Extern.BytealgIndexByte.indexByte) (by kernel_rfl), Lib.run_indexByteString]
  simp only [Result.andThen]
  rw [Oper.upon_value]
  go_wp2
  go_ret
  exact ⟨rfl, rfl⟩
set_option maxHeartbeats 1000000 in
set_option maxRecDepth 100000 in
theorem baCompare_calls (a b : ByteArray) (w : World) :
    Calls Tryz.prog 62 #[.string a, .string b] w fun e w' => e = .returned (.int .i64 (Lib.compareBytes a.data.toList b.data.toList)) ∧ w' = w := by
  go_enter Tryz.func62, Tryz.ntmps62
  go_wp2
  rw [run_callFunc_extern Tryz.func110 (by kernel_rfl) (by kernel_rfl) (by kernel_rfl) (e := Extern.BytealgCompare.compare) (by kernel_rfl), Lib.run_compareString]
  simp only [Result.andThen]
  rw [Oper.upon_value]
  go_wp2
  go_ret
  exact ⟨rfl, rfl⟩
theorem slIndexByte_pc (s : ByteArray) (c : Int) : PCp 179 [.c (.str s), .c (.int .u8 c)] [] (.c (.int .i64 (Lib.indexByte s.data.toList c.toNat.toUInt8))) [] :=
  PCs.of_same ⟨_, Tryz.func179, by kernel_rfl, by kernel_rfl⟩ (fun F φ w cs hp => args2 (fun c h => h.str_inv) (fun c h => h.int_inv) hp) (fun F φ w => RS.mki _ _) (slIndexByte_calls s c)
theorem baCompare_pc (a b : ByteArray) : PCp 62 [.c (.str a), .c (.str b)] [] (.c (.int .i64 (Lib.compareBytes a.data.toList b.data.toList))) [] :=
  PCs.of_same ⟨_, Tryz.func62, by kernel_rfl, by kernel_rfl⟩ (fun F φ w cs hp => args2 (fun c h => h.str_inv) (fun c h => h.str_inv) hp) (fun F φ w => RS.mki _ _) (baCompare_calls a b)
set_option maxRecDepth 100000 in
set_option maxHeartbeats 4000000 in
theorem sIndexByte_pc (s : ByteArray) (c : Int) : PCp 138 [.c (.str s), .c (.int .u8 c)] [] (.c (.int .i64 (Lib.indexByte s.data.toList c.toNat.toUInt8))) [] := by
  refine fn_sound (mt := mts) tab_fits tab_mixed Tryz.func138 (by rfl) (by kernel_rfl) (by kernel_rfl) Tryz.results138 (Nat.le_of_ble_eq_true (by kernel_rfl)) ?_
  conv => whnf
  repeat' (first | (refine  CallX.mk _ _ (by exact slIndexByte_pc _ _) ?_; conv => whnf) | fail)
  exact fini rfl
def cmpS (a b : ByteArray) : Int := Lib.compareBytes a.data.toList b.data.toList
set_option maxRecDepth 100000 in
set_option maxHeartbeats 4000000 in
theorem sCompare_pc (a b : ByteArray) : PCp 25 [.c (.str a), .c (.str b)] [] (.c (.int .i64 (cmpS a b))) [] := by
  refine fn_sound (mt := mts) tab_fits tab_mixed Tryz.func25 (by rfl) (by kernel_rfl) (by kernel_rfl) Tryz.results25 (Nat.le_of_ble_eq_true (by kernel_rfl)) ?_
  conv => whnf
  repeat' (first | (refine  CallX.mk _ _ (by exact baCompare_pc _ _) ?_; conv => whnf) | fail)
  exact fini rfl

def onlyB (s t : ByteArray) : Bool := decide (∀ i, i < s.size → 0 ≤ Lib.indexByte t.data.toList (byteAt s i).toNat.toUInt8)
set_option maxRecDepth 100000 in
set_option maxHeartbeats 4000000 in
theorem only_pc (s t : ByteArray) (hs : s.size ≤ 1000000) : PCp 83 [.c (.str s), .c (.str t)] [] (.c (.bool (onlyB s t))) [] := by
  refine fn_sound (mt := mts) tab_fits tab_mixed Tryz.func83 (by rfl) (by kernel_rfl) (by kernel_rfl) Tryz.results83 (Nat.le_of_ble_eq_true (by kernel_rfl)) ?_
  conv => whnf
  refine loop_count (s.size) [] [0, 1, 7, 8] (fun k (_ : Unit) => ⟨[(0, .c (.str s)), (1, .c (.str t)), (7, .c (.int .i64 s.size)), (8, .c (.int .i64 k))], [], 0⟩) (fun k (_ : Unit) => ∀ i, i < k → 0 ≤ Lib.indexByte t.data.toList (byteAt s i).toNat.toUInt8) (()) ?_ ?_ ?_
  · conv => whnf
    exact ⟨rfl, by simp⟩
  · intro k _ hk hi
    conv => whnf
    repeat' (first | (refine CondG.mk (fun h => ?_) (fun h => ?_) <;> (try simp only [decide_eq_true_eq, decide_eq_false_iff_not, Bool.not_eq_true', Bool.not_eq_false', beq_iff_eq, beq_eq_false_iff_ne] at h) <;> (first | (exfalso; first | omega | exact h trivial) | (conv => whnf))) | (refine  CallX.mk _ _ (by exact sIndexByte_pc _ _) ?_; conv => whnf) | (refine .mk (by first | omega | (unfold roomOK; simp [cutRows]; done) | (unfold roomOK; simp [cutRows]; omega)) ?_; conv => whnf) | fail)
    · exact finb (by rw [eq_comm, onlyB, decide_eq_false_iff_not]; intro hh; have h5 := hh k hk; exact absurd h (Int.not_lt.2 h5))
    · refine count_next () hk (by rw [wrap_succ hk (by omega)]; rfl) ?_
      exact all_succ hi (Int.not_lt.1 h)
  · intro _ hi
    conv => whnf
    repeat' (first | (refine CondG.mk (fun h => ?_) (fun h => ?_) <;> (try simp only [decide_eq_true_eq, decide_eq_false_iff_not, Bool.not_eq_true', Bool.not_eq_false', beq_iff_eq, beq_eq_false_iff_ne] at h) <;> (first | (exfalso; first | omega | exact h trivial) | (conv => whnf))) | fail)
    exact finb (by rw [eq_comm, onlyB, decide_eq_true_iff]; exact hi)
end Go.Proofs.YtbdlhiogjnbhjaaGreat

namespace Go.Proofs.YtbdlhiogjnbhjaaGreat
set_option linter.unusedVariables false
set_option linter.unusedSimpArgs false
open Abs

theorem mapAt {α : Type} {enc : α → List V} {l : List α} {k : Nat} (d : α) (h : k < l.length) : 0 ≤ (k : Int) ∧ (l.map enc)[(k : Int).toNat]? = some (enc (l.getD k d)) := ⟨by omega, by simp [h]⟩
theorem mapAtW {α : Type} {enc : α → List V} {l : List α} {e : Int} {j : Nat} (d : α) (he : e = (j : Int)) (h : j < l.length) : 0 ≤ e ∧ (l.map enc)[e.toNat]? = some (enc (l.getD j d)) := by subst he; exact mapAt d h
def encI (n : Int) : List V := [.int .i64 n]
def encS (s : ByteArray) : List V := [.str s]
def firstErr : List Int → Int
  | [] => 0
  | x :: r => if x = 0 then firstErr r else x
def belowV (x n : Int) : Int := if n < 1 then 0 else if x.tmod n < 0 then x.tmod n + n else x.tmod n
theorem belowV_lt (x n : Int) (h : 1 ≤ n) : 0 ≤ belowV x n ∧ belowV x n < n := by
  have h1 := Int.tmod_lt_of_pos x (show 0 < n by omega)
  have h2 : -n < x.tmod n := by
    have := Int.lt_tmod_of_pos x (show 0 < n by omega)
    omega
  unfold belowV
  rw [if_neg (by omega)]
  split <;> omega

set_option maxRecDepth 100000 in
set_option maxHeartbeats 4000000 in
theorem below_pc (x n : Int) (hn : n ≤ 4611686018427387904) : PCp 82 [.c (.int .i64 x), .c (.int .i64 n)] [] (.c (.int .i64 (belowV x n))) [] := by
  refine fn_sound (mt := mts) tab_fits tab_mixed Tryz.func82 (by rfl) (by kernel_rfl) (by kernel_rfl) Tryz.results82 (Nat.le_of_ble_eq_true (by kernel_rfl)) ?_
  conv => whnf
  constructor
  · intro h
    conv => whnf
    have h := of_decide_eq_true h
    exact .mk ⟨by simp [oneOf, belowV, h], rfl⟩
  · intro h
    have h := of_decide_eq_false h
    conv => whnf
    refine ⟨by omega, ?_⟩
    conv => whnf
    have h1 := Int.tmod_lt_of_pos x (show 0 < n by omega)
    have h2 : -n < x.tmod n := Int.lt_tmod_of_pos x (show 0 < n by omega)
    constructor
    · intro h3
      have h3 := of_decide_eq_true h3
      conv => whnf
      refine .mk ⟨?_, rfl⟩
      show S.c _ = _
      rw [IntWalk.i64_in _ ⟨by omega, by omega⟩, belowV, if_neg h, if_pos h3]
    · intro h3
      have h3 := of_decide_eq_false h3
      conv => whnf
      refine .mk ⟨?_, rfl⟩
      show S.c _ = _
      rw [belowV, if_neg h, if_neg h3]

def nextV (L : List Int) (p n : Int) : Int :=
  if L.length = 0 then belowV (IntKind.i64.wrap ((p + 1) * 7919)) n
  else belowV (IntKind.i64.wrap (belowV (L.getD (p.tmod L.length).toNat 0) 1073741824 + IntKind.i64.wrap (IntKind.i64.wrap (p.tdiv L.length) * IntKind.i64.wrap (7919 + p.tmod L.length)))) n
theorem nextV_lt (L : List Int) (p n : Int) (h : 1 ≤ n) : 0 ≤ nextV L p n ∧ nextV L p n < n := by
  unfold nextV
  split <;> exact belowV_lt _ _ h

set_option maxRecDepth 100000 in
theorem next_pc (L : List Int) (p n : Int) (hp : 0 ≤ p) (hp2 : p ≤ 1000000000) (hL : L.length ≤ 9223372036854775807) (hn : n ≤ 4611686018427387904) :
    PCp 38 [.c (.ptr 0 0), .c (.int .i64 n)] [.box [.lst 1 (L.map encI), .int .i64 p]] (.c (.int .i64 (nextV L p n))) [.box [.lst 1 (L.map encI), .int .i64 (p + 1)]] := by
  have hw : IntKind.i64.wrap (p + 1) = p + 1 := IntWalk.i64_in _ ⟨by omega, by omega⟩
  have hw2 : IntKind.i64.wrap (p + 1 - 1) = p := by rw [IntWalk.i64_in _ ⟨by omega, by omega⟩]; omega
  refine fn_sound (mt := mts) tab_fits tab_mixed Tryz.func38 (by rfl) (by kernel_rfl) (by kernel_rfl) Tryz.results38 (Nat.le_of_ble_eq_true (by kernel_rfl)) ?_
  conv => whnf
  constructor
  · intro h
    have h0 : L.length = 0 := by simpa using h
    conv => whnf
    refine .mk _ _ (below_pc _ _ hn) ?_
    conv => whnf
    refine .mk ⟨?_, ?_⟩
    · show S.c _ = _
      rw [nextV, if_pos h0, hw]
    · show [Ob.box _] = _
      rw [hw]
  · intro h
    have h0 : ¬ L.length = 0 := by
      have := of_decide_eq_false h
      intro e
      simp [e] at this
    conv => whnf
    have hlen : (((L.map encI).length : Nat) : Int) = (L.length : Int) := by simp
    have hne : ¬ (((L.map encI).length : Nat) : Int) = 0 := by rw [hlen]; omega
    refine ⟨hne, ?_⟩
    conv => whnf
    refine ⟨hne, ?_⟩
    conv => whnf
    have hm : IntKind.i64.wrap (IntKind.i64.wrap (p + 1) - 1) = p := by rw [hw, hw2]
    have hi0 : 0 ≤ p.tmod L.length := Int.tmod_nonneg _ hp
    have hi1 : p.tmod L.length < L.length := Int.tmod_lt_of_pos _ (by omega)
    refine ⟨_, mapAtW (j := (p.tmod L.length).toNat) 0 (by rw [hm, hlen]; omega) (by omega), ?_⟩
    conv => whnf
    refine .mk _ _ (below_pc _ _ (by omega)) ?_
    conv => whnf
    refine .mk _ _ (below_pc _ _ hn) ?_
    conv => whnf
    refine .mk ⟨?_, ?_⟩
    · show S.c _ = _
      rw [nextV, if_neg h0, hm, hlen]
    · show [Ob.box _] = _
      rw [hw]

abbrev stO (L : List Int) (p : Int) : Ob := .box [.lst 1 (L.map encI), .int .i64 p]
def pickV (L : List Int) (p : Int) (l : List Int) : Int := l.getD (nextV L p l.length).toNat 0

set_option maxRecDepth 100000 in
theorem pick_pc (L : List Int) (p : Int) (l : List Int) (hp : 0 ≤ p) (hp2 : p ≤ 1000000000) (hL : L.length ≤ 9223372036854775807) (h1 : 1 ≤ l.length) (h2 : l.length ≤ 1000000000) :
    PCp 40 [.c (.ptr 0 0), .c (.lst 1 (l.map encI))] [stO L p] (.c (.int .i64 (pickV L p l))) [stO L (p + 1)] := by
  have hlen : (((l.map encI).length : Nat) : Int) = (l.length : Int) := by simp
  have hb := nextV_lt L p l.length (by omega)
  refine fn_sound (mt := mts) tab_fits tab_mixed Tryz.func40 (by rfl) (by kernel_rfl) (by kernel_rfl) Tryz.results40 (Nat.le_of_ble_eq_true (by kernel_rfl)) ?_
  conv => whnf
  refine .mk _ _ (next_pc L p _ hp hp2 hL (by rw [hlen]; omega)) ?_
  conv => whnf
  rw [hlen]
  refine ⟨_, mapAtW (j := (nextV L p l.length).toNat) 0 (by omega) (by omega), ?_⟩
  conv => whnf
  exact .mk ⟨rfl, rfl⟩

def rangeV (L : List Int) (p a b : Int) : Int := if b < a then a else a + nextV L p (b - a + 1)
theorem rangeV_in (L : List Int) (p a b : Int) (h : a ≤ b) : a ≤ rangeV L p a b ∧ rangeV L p a b ≤ b := by
  have := nextV_lt L p (b - a + 1) (by omega)
  unfold rangeV
  rw [if_neg (by omega)]
  omega
def small (x : Int) : Prop := -1000000000000 ≤ x ∧ x ≤ 1000000000000

set_option maxRecDepth 100000 in
theorem small_lit {n : Int} (h : -1000000 ≤ n ∧ n ≤ 1000000) : small n := by unfold small; omega
set_option maxRecDepth 100000 in
set_option maxHeartbeats 4000000 in
theorem range_pc (L : List Int) (p a b : Int) (hp : 0 ≤ p) (hp2 : p ≤ 1000000000) (hL : L.length ≤ 9223372036854775807) (hab : a ≤ b) (ha : small a) (hb : small b) :
    PCp 39 [.c (.ptr 0 0), .c (.int .i64 a), .c (.int .i64 b)] [stO L p] (.c (.int .i64 (rangeV L p a b))) [stO L (p + 1)] := by
  have e1 : IntKind.i64.wrap (b - a) = b - a := IntWalk.i64_in _ (by unfold small at *; omega)
  have e2 : IntKind.i64.wrap (b - a + 1) = b - a + 1 := IntWalk.i64_in _ (by unfold small at *; omega)
  have hn := nextV_lt L p (b - a + 1) (by omega)
  refine fn_sound (mt := mts) tab_fits tab_mixed Tryz.func39 (by rfl) (by kernel_rfl) (by kernel_rfl) Tryz.results39 (Nat.le_of_ble_eq_true (by kernel_rfl)) ?_
  conv => whnf
  constructor
  · intro h
    have h := of_decide_eq_true h
    omega
  · intro h
    conv => whnf
    rw [e1, e2]
    refine .mk _ _ (next_pc L p _ hp hp2 hL (by unfold small at *; omega)) ?_
    conv => whnf
    refine .mk ⟨?_, rfl⟩
    show S.c _ = _
    rw [IntWalk.i64_in _ (by unfold small at *; omega), rangeV, if_neg (by omega)]

def someV (L : List Int) (p : Int) (l : List ByteArray) : ByteArray := l.getD (nextV L p l.length).toNat default
theorem someV_in (L : List Int) (p : Int) (l : List ByteArray) (h : 1 ≤ l.length) : someV L p l ∈ l := by
  have := nextV_lt L p l.length (by omega)
  have h2 : (nextV L p l.length).toNat < l.length := by omega
  unfold someV
  have : l.getD (nextV L p l.length).toNat default = l[(nextV L p l.length).toNat] := by simp [h2]
  rw [this]
  exact List.getElem_mem h2

set_option maxRecDepth 100000 in
theorem some_pc (L : List Int) (p : Int) (l : List ByteArray) (hp : 0 ≤ p) (hp2 : p ≤ 1000000000) (hL : L.length ≤ 9223372036854775807) (h1 : 1 ≤ l.length) (h2 : l.length ≤ 1000000000) :
    PCp 41 [.c (.ptr 0 0), .c (.lst 1 (l.map encS))] [stO L p] (.c (.str (someV L p l))) [stO L (p + 1)] := by
  have hlen : (((l.map encS).length : Nat) : Int) = (l.length : Int) := by simp
  have hb := nextV_lt L p l.length (by omega)
  refine fn_sound (mt := mts) tab_fits tab_mixed Tryz.func41 (by rfl) (by kernel_rfl) (by kernel_rfl) Tryz.results41 (Nat.le_of_ble_eq_true (by kernel_rfl)) ?_
  conv => whnf
  refine .mk _ _ (next_pc L p _ hp hp2 hL (by rw [hlen]; omega)) ?_
  conv => whnf
  rw [hlen]
  refine ⟨_, mapAtW (j := (nextV L p l.length).toNat) default (by omega) (by omega), ?_⟩
  conv => whnf
  exact .mk ⟨rfl, rfl⟩

set_option maxRecDepth 100000 in
set_option maxHeartbeats 4000000 in
theorem flip_pc (L : List Int) (p n : Int) (hp : 0 ≤ p) (hp2 : p ≤ 1000000000) (hL : L.length ≤ 9223372036854775807) (hn : n ≤ 1000000000) :
    PCp 37 [.c (.ptr 0 0), .c (.int .i64 n)] [stO L p] (.c (.bool (nextV L p n == 0))) [stO L (p + 1)] := by
  refine fn_sound (mt := mts) tab_fits tab_mixed Tryz.func37 (by rfl) (by kernel_rfl) (by kernel_rfl) Tryz.results37 (Nat.le_of_ble_eq_true (by kernel_rfl)) ?_
  conv => whnf
  refine .mk _ _ (next_pc L p _ hp hp2 hL (by omega)) ?_
  conv => whnf
  exact .mk ⟨rfl, rfl⟩

def StOk (L : List Int) (p : Int) : Prop := L.length ≤ 9223372036854775807 ∧ 0 ≤ p ∧ p ≤ 900000000
theorem next_ok {L : List Int} {p : Int} (h : StOk L p) (n : Int) (hn : n ≤ 1000000000) : PCp 38 [.c (.ptr 0 0), .c (.int .i64 n)] [stO L p] (.c (.int .i64 (nextV L p n))) [stO L (p + 1)] :=
  next_pc L p n h.2.1 (by have := h.2.2; omega) h.1 (by omega)
theorem flip_ok {L : List Int} {p : Int} (h : StOk L p) (n : Int) (hn : n ≤ 1000000000) : PCp 37 [.c (.ptr 0 0), .c (.int .i64 n)] [stO L p] (.c (.bool (nextV L p n == 0))) [stO L (p + 1)] :=
  flip_pc L p n h.2.1 (by have := h.2.2; omega) h.1 hn
theorem pick_ok {L : List Int} {p : Int} (h : StOk L p) (l : List Int) (h1 : 1 ≤ l.length) (h2 : l.length ≤ 1000000000) : PCp 40 [.c (.ptr 0 0), .c (.lst 1 (l.map encI))] [stO L p] (.c (.int .i64 (pickV L p l))) [stO L (p + 1)] :=
  pick_pc L p l h.2.1 (by have := h.2.2; omega) h.1 h1 h2
theorem some_ok {L : List Int} {p : Int} (h : StOk L p) (l : List ByteArray) (h1 : 1 ≤ l.length) (h2 : l.length ≤ 1000000000) : PCp 41 [.c (.ptr 0 0), .c (.lst 1 (l.map encS))] [stO L p] (.c (.str (someV L p l))) [stO L (p + 1)] :=
  some_pc L p l h.2.1 (by have := h.2.2; omega) h.1 h1 h2
theorem range_ok {L : List Int} {p : Int} (h : StOk L p) (a b : Int) (hab : a ≤ b) (ha : small a) (hb : small b) : PCp 39 [.c (.ptr 0 0), .c (.int .i64 a), .c (.int .i64 b)] [stO L p] (.c (.int .i64 (rangeV L p a b))) [stO L (p + 1)] :=
  range_pc L p a b h.2.1 (by have := h.2.2; omega) h.1 hab ha hb
end Go.Proofs.YtbdlhiogjnbhjaaGreat

namespace Go.Proofs.YtbdlhiogjnbhjaaGreat
set_option linter.unusedVariables false
set_option linter.unusedSimpArgs false
open Go.ChangeShapes Go.WideShapes Go.ChangeAt Go.RowKit
open Abs

theorem walk_of_pc' {f : Nat} (H : ∀ L : List Int, L.length ≤ 9223372036854775807 → PCp f [.c (.lst 1 (L.map encI))] [] (.c (.bool true)) [])
    (a : Option Addr) (len cap : Nat) (zs : List Int) (w : World) (hg : ∀ g ∈ globs, g.1 < w.heap.size ∧ ∃ cs t f, g.2 cs ∧ w.heap[g.1]? = some (.cells cs t f)) (h : IsRow .i64 w a len cap zs) :
    Calls Tryz.prog f #[.slice a len cap] w fun e w' => e = .returned (.bool true) ∧ Below w.heap.size w w' := by
  have key : ∀ L : List Int, L.length ≤ 9223372036854775807 → RT (fun b => b < w.heap.size) w (.slice a len cap) (.lst 1 (L.map encI)) →
      Calls Tryz.prog f #[.slice a len cap] w fun e w' => e = .returned (.bool true) ∧ Below w.heap.size w w' := by
    intro L hL hrt
    have hc := (H L hL).2 (fun b => b < w.heap.size) (fun _ => none) w #[.slice a len cap] (.cons (.c (.tree hrt)) .nil)
      ⟨fun l o h => by simp [nth] at h, fun l l' o o' b h => by simp [nth] at h, fun l o b h => by simp [nth] at h, fun b h => h, fun l c h => (by simp at h), hg⟩
      (fun l c h => by simp at h)
    refine hc.mono ?_
    rintro e w' ⟨c, F', φ', r0, os0, ⟨e1, e2⟩, rfl, hr, hn⟩
    subst e1 e2
    refine ⟨?_, hn.os, hn.tape, hn.output, hn.size, ?_⟩
    · cases hr with | c hv => cases hv with | tree ht => cases ht; rfl
    · intro k hk
      by_cases he : w'.heap[k]? = w.heap[k]?
      · exact he
      · obtain ⟨l, o, h1, _⟩ := hn.keep k hk he
        simp [nth] at h1
  rcases h with ⟨rfl, rfl, rfl, rfl⟩ | ⟨x, rfl, hl, hm, hz, hcell, -⟩
  · exact key [] (by simp) (.lst0 none 0 1 (Nat.zero_le _))
  · have hm' : cap ≤ 9223372036854775807 := hm
    by_cases h0 : len = 0
    · subst h0
      exact key [] (by simp) (.lst0 (some x) cap 1 hm)
    · obtain ⟨h1, h2⟩ := spot_none (hcell 0 (by omega))
      have h2 : x.block < w.heap.size := h2
      obtain ⟨b, o, sp⟩ := x
      have h1 : sp = none := h1
      subst h1
      refine key (zs.take len) (by simp; omega) (.lst b o len cap 1 _ (fun i _ => .int .i64 (zs.getD i 0)) h2 (by simp; omega) hl hm ?_ ?_ ?_)
      · intro r hr
        obtain ⟨y, _, rfl⟩ := List.mem_map.1 hr
        rfl
      · intro i j hi hj
        have hj0 : j = 0 := by omega
        subst hj0
        have h6 : (⟨b, o, none⟩ : Addr).add i = ⟨b, o + i, none⟩ := by unfold Addr.add; split <;> simp_all
        have := hcell i (by omega)
        rw [h6] at this
        simpa using this
      · intro i r j v hr hv
        have hi : i < (zs.take len).length := by
          have := (List.getElem?_eq_some_iff.1 hr).1
          simpa using this
        have hi2 : i < zs.length := by simp at hi; omega
        rw [List.getElem?_map, List.getElem?_eq_getElem hi] at hr
        simp only [Option.map_some, Option.some.injEq] at hr
        subst hr
        cases j with
        | zero =>
          simp only [encI, List.getElem?_cons_zero, Option.some.injEq] at hv
          subst hv
          simp only [List.getElem_take]
          rw [show zs.getD i 0 = zs[i] by simp [hi2]]
          exact .int _ _
        | succ j => simp [encI] at hv
theorem walk_of_pc {f : Nat} (H : ∀ L : List Int, L.length ≤ 9223372036854775807 → PCp f [.c (.lst 1 (L.map encI))] [] (.c (.bool true)) [])
    (hg : globs = []) (a : Option Addr) (len cap : Nat) (zs : List Int) (w : World) (h : IsRow .i64 w a len cap zs) :
    Calls Tryz.prog f #[.slice a len cap] w fun e w' => e = .returned (.bool true) ∧ Below w.heap.size w w' :=
  walk_of_pc' H a len cap zs w (fun g h => by rw [hg] at h; cases h) h
end Go.Proofs.YtbdlhiogjnbhjaaGreat

namespace Go.Proofs.YtbdlhiogjnbhjaaGreat
set_option linter.unusedVariables false
set_option linter.unusedSimpArgs false
open Abs

def iterN {A : Type} (f : Nat → A → A) : Nat → A → A
  | 0, a => a
  | n + 1, a => f n (iterN f n a)
structure Pc where
  key : ByteArray
  kind : ByteArray
  long : Int
instance : Inhabited Pc := ⟨⟨default, default, 0⟩⟩
end Go.Proofs.YtbdlhiogjnbhjaaGreat

namespace Go.Proofs.YtbdlhiogjnbhjaaGreat
set_option linter.unusedVariables false
set_option linter.unusedSimpArgs false
open Abs

def smalls : ByteArray := ⟨#[97, 98, 99, 100, 101, 102, 103, 104, 105, 106, 107, 108, 109, 110, 111, 112, 113, 114, 115, 116, 117, 118, 119, 120, 121, 122]⟩
def keyChars : ByteArray := ⟨#[97, 98, 99, 100, 101, 102, 103, 104, 105, 106, 107, 108, 109, 110, 111, 112, 113, 114, 115, 116, 117, 118, 119, 120, 121, 122, 48, 49, 50, 51, 52, 53, 54, 55, 56, 57, 45, 95]⟩
theorem smalls_ix : ∀ c : Fin 256, decide (0 ≤ Lib.indexByte smalls.data.toList ((c.val : Int).toNat.toUInt8)) = decide (97 ≤ (c.val : Int) ∧ (c.val : Int) ≤ 122) := by decide +kernel
theorem chars_ix : ∀ c : Fin 256, decide (0 ≤ Lib.indexByte keyChars.data.toList ((c.val : Int).toNat.toUInt8)) = isKeyC (c.val : Int) := by decide +kernel
theorem byteAt_lt (s : ByteArray) (i : Nat) : ∃ c : Fin 256, byteAt s i = (c.val : Int) := ⟨⟨(s.data.getD i 0).toNat, UInt8.toNat_lt _⟩, rfl⟩
theorem extract1 (s : ByteArray) (h : 1 ≤ s.size) : (s.extract 0 1).size = 1 ∧ byteAt (s.extract 0 1) 0 = byteAt s 0 := by
  have h1 : (s.extract 0 1).size = 1 := by rw [ByteArray.size_extract]; omega
  refine ⟨h1, ?_⟩
  unfold byteAt
  have h2 : 0 < (s.extract 0 1).data.size := by have : (s.extract 0 1).data.size = 1 := h1; omega
  have h3 : 0 < s.data.size := h
  simp only [Array.getD, h2, h3, dif_pos]
  congr 1
  have : (s.extract 0 1).data = s.data.extract 0 1 := by simp
  simp [this]
theorem keyR_eq (s : ByteArray) (h : 1 ≤ s.size ∧ s.size ≤ 40) : (onlyB (s.extract 0 1) smalls && onlyB s keyChars) = keyB s := by
  obtain ⟨e1, e2⟩ := extract1 s h.1
  rw [Bool.eq_iff_iff, Bool.and_eq_true]
  simp only [onlyB, keyB, decide_eq_true_eq, e1]
  have k1 : (∀ i, i < 1 → 0 ≤ Lib.indexByte smalls.data.toList (byteAt (s.extract 0 1) i).toNat.toUInt8) ↔ (97 ≤ byteAt s 0 ∧ byteAt s 0 ≤ 122) := by
    obtain ⟨c, hc⟩ := byteAt_lt s 0
    have := smalls_ix c
    rw [← hc, decide_eq_decide] at this
    rw [← this, ← e2]
    constructor
    · intro hh; exact hh 0 (by omega)
    · intro hh i hi
      have : i = 0 := by omega
      subst this; exact hh
  have k2 : (∀ i, i < s.size → 0 ≤ Lib.indexByte keyChars.data.toList (byteAt s i).toNat.toUInt8) ↔ (∀ i, i < s.size → isKeyC (byteAt s i) = true) := by
    have : ∀ i, 0 ≤ Lib.indexByte keyChars.data.toList (byteAt s i).toNat.toUInt8 ↔ isKeyC (byteAt s i) = true := by
      intro i
      obtain ⟨c, hc⟩ := byteAt_lt s i
      rw [hc, ← chars_ix c, decide_eq_true_eq]
    constructor
    · intro hh i hi; exact (this i).1 (hh i hi)
    · intro hh i hi; exact (this i).2 (hh i hi)
  rw [k1, k2]
  constructor
  · rintro ⟨⟨a, b⟩, c⟩; exact ⟨by omega, by omega, a, b, c⟩
  · rintro ⟨_, _, a, b, c⟩; exact ⟨⟨a, b⟩, c⟩
set_option maxRecDepth 100000 in
set_option maxHeartbeats 4000000 in
theorem rKey_pc (s : ByteArray) : PCp 44 [.c (.str s)] [] (.c (.bool (keyB s))) [] := by
  refine fn_sound (mt := mts) tab_fits tab_mixed Tryz.func44 (by rfl) (by kernel_rfl) (by kernel_rfl) Tryz.results44 (Nat.le_of_ble_eq_true (by kernel_rfl)) ?_
  conv => whnf
  repeat' (first | (refine Split.mk (fun h => ?_) (fun h => ?_) <;> (try simp only [decide_eq_true_eq, decide_eq_false_iff_not, Bool.not_eq_true', Bool.not_eq_false', beq_iff_eq, beq_eq_false_iff_ne] at h) <;> (first | (exfalso; first | omega | exact h trivial) | (conv => whnf))) | (refine  CallX.mk _ _ (by exact rIn_pc _ _ _) ?_; conv => whnf) | (refine .mk (by first | omega | (unfold roomOK; simp [cutRows]; done) | (unfold roomOK; simp [cutRows]; omega)) ?_; conv => whnf) | fail)
  · have hk : 1 ≤ s.size ∧ s.size ≤ 40 := ⟨by omega, by omega⟩
    refine .mk _ _ (only_pc (s.extract 0 1) smalls (by rw [ByteArray.size_extract]; omega)) ?_
    conv => whnf
    repeat' (first | (refine Split.mk (fun h => ?_) (fun h => ?_) <;> (try simp only [decide_eq_true_eq, decide_eq_false_iff_not, Bool.not_eq_true', Bool.not_eq_false', beq_iff_eq, beq_eq_false_iff_ne] at h) <;> (first | (exfalso; first | omega | exact h trivial) | (conv => whnf))) | (refine  CallX.mk _ _ (by exact only_pc s keyChars (by omega)) ?_; conv => whnf) | fail)
    all_goals exact finb (by rw [← keyR_eq s hk]; simp_all)
  · exact finb (by rw [eq_comm, keyB, decide_eq_false_iff_not]; intro hh; have h1 := hh.1; have h2 := hh.2.1; omega)

def leB (a b : ByteArray) : Bool := Op.bytesLess a.toList b.toList || a.toList == b.toList
theorem leB_nil (s : ByteArray) (h : keyB s = true) : leB s ⟨#[]⟩ = false := by
  have h1 : 0 < s.size := by simp only [keyB, decide_eq_true_eq] at h; exact h.1
  unfold leB
  rw [size_nil, ByteArray.toList_eq, ByteArray.toList_eq]
  have h2 : Op.bytesLess s.data.toList [] = false := by cases s.data.toList <;> rfl
  rw [Bool.or_eq_false_iff]
  exact ⟨h2, decide_eq_false (by omega)⟩
theorem drop_cons {α : Type} {l : List α} {k : Nat} (h : k < l.length) : l.drop k = l[k] :: l.drop (k + 1) := List.drop_eq_getElem_cons h

set_option maxRecDepth 100000 in
set_option maxHeartbeats 4000000 in
theorem first_pc (l : List Int) (hl : l.length ≤ 1000000) : PCp 76 [.c (.lst 1 (l.map encI))] [] (.c (.int .i64 (firstErr l))) [] := by
  have hlm : (l.map encI).length = l.length := List.length_map ..
  refine fn_sound (mt := mts) tab_fits tab_mixed Tryz.func76 (by rfl) (by kernel_rfl) (by kernel_rfl) Tryz.results76 (Nat.le_of_ble_eq_true (by kernel_rfl)) ?_
  conv => whnf
  refine loop_count (l.length) [] [5, 6, 7] (fun k (_ : Unit) => ⟨[(5, .c (.lst 1 (l.map encI))), (6, .c (.int .i64 (l.map encI).length)), (7, .c (.int .i64 k))], [], 0⟩) (fun k (_ : Unit) => firstErr (l.drop k) = firstErr l) (()) ?_ ?_ ?_
  · conv => whnf
    exact ⟨rfl, rfl⟩
  · intro k _ hk hi
    rw [drop_cons hk, firstErr] at hi
    conv => whnf
    repeat' (first | (refine CondG.mk (fun h => ?_) (fun h => ?_) <;> (try simp only [decide_eq_true_eq, decide_eq_false_iff_not, Bool.not_eq_true', Bool.not_eq_false', beq_iff_eq, beq_eq_false_iff_ne] at h) <;> (first | (exfalso; first | omega | exact h trivial) | (conv => whnf))) | fail)
    refine idx_map k hk rfl ?_
    conv => whnf
    repeat' (first | (refine CondG.mk (fun h => ?_) (fun h => ?_) <;> (try simp only [decide_eq_true_eq, decide_eq_false_iff_not, Bool.not_eq_true', Bool.not_eq_false', beq_iff_eq, beq_eq_false_iff_ne] at h) <;> (first | (exfalso; first | omega | exact h trivial) | (conv => whnf))) | fail)
    · exact fini (by rw [← hi, if_neg (by simpa using h)])
    · refine count_next () hk (by rw [wrap_succ hk (by omega)]; rfl) ?_
      rw [← hi, if_pos (by simpa using h)]
  · intro _ hi
    rw [List.drop_of_length_le (Nat.le_refl _)] at hi
    conv => whnf
    repeat' (first | (refine CondG.mk (fun h => ?_) (fun h => ?_) <;> (try simp only [decide_eq_true_eq, decide_eq_false_iff_not, Bool.not_eq_true', Bool.not_eq_false', beq_iff_eq, beq_eq_false_iff_ne] at h) <;> (first | (exfalso; first | omega | exact h trivial) | (conv => whnf))) | fail)
    exact fini (by rw [← hi]; rfl)
end Go.Proofs.YtbdlhiogjnbhjaaGreat

namespace Go.Proofs.YtbdlhiogjnbhjaaGreat
set_option linter.unusedVariables false
set_option linter.unusedSimpArgs false
open Abs

theorem ltL_irr : ∀ a : List UInt8, Op.bytesLess a a = false
  | [] => rfl
  | a :: r => by
    have ih := ltL_irr r
    simp [Op.bytesLess, ih]
theorem ltL_trans : ∀ {a b c : List UInt8}, Op.bytesLess a b = true → Op.bytesLess b c = true → Op.bytesLess a c = true
  | [], [], c, h, h2 => h2
  | [], b :: s, [], h, h2 => by simp [Op.bytesLess] at h2
  | [], b :: s, c :: t, h, h2 => rfl
  | a :: r, [], c, h, h2 => by simp [Op.bytesLess] at h
  | a :: r, b :: s, [], h, h2 => by simp [Op.bytesLess] at h2
  | a :: r, b :: s, c :: t, h, h2 => by
    simp only [Op.bytesLess, Bool.or_eq_true, decide_eq_true_eq, Bool.and_eq_true, beq_iff_eq] at h h2 ⊢
    rcases h with h | ⟨h, h'⟩
    · rcases h2 with h2 | ⟨h2, h2'⟩
      · exact .inl (UInt8.lt_trans h h2)
      · subst h2; exact .inl h
    · subst h
      rcases h2 with h2 | ⟨h2, h2'⟩
      · exact .inl h2
      · exact .inr ⟨h2, ltL_trans h' h2'⟩
theorem ltL_tri : ∀ a b : List UInt8, Op.bytesLess a b = true ∨ a = b ∨ Op.bytesLess b a = true
  | [], [] => .inr (.inl rfl)
  | [], _ :: _ => .inl rfl
  | _ :: _, [] => .inr (.inr rfl)
  | a :: r, b :: s => by
    have ih := ltL_tri r s
    simp only [Op.bytesLess, Bool.or_eq_true, decide_eq_true_eq, Bool.and_eq_true, beq_iff_eq]
    rcases Nat.lt_trichotomy a.toNat b.toNat with h | h | h
    · exact .inl (.inl (UInt8.lt_iff_toNat_lt.2 h))
    · have e := UInt8.toNat_inj.1 h
      subst e
      rcases ih with h1 | h1 | h1
      · exact .inl (.inr ⟨rfl, h1⟩)
      · exact .inr (.inl (by rw [h1]))
      · exact .inr (.inr (.inr ⟨rfl, h1⟩))
    · exact .inr (.inr (.inl (UInt8.lt_iff_toNat_lt.2 h)))
theorem toList_eq' {a b : ByteArray} : a.toList = b.toList ↔ a = b := by
  rw [ByteArray.toList_eq, ByteArray.toList_eq]
  exact ⟨fun h => ByteArray.ext (Array.toList_inj.1 h), fun h => by rw [h]⟩
theorem beqL (a b : ByteArray) : (a.toList == b.toList) = decide (a = b) := by
  rw [Bool.eq_iff_iff, beq_iff_eq, decide_eq_true_eq, toList_eq']
def ltB (a b : ByteArray) : Bool := Op.bytesLess a.toList b.toList
theorem ltB_irr (a : ByteArray) : ltB a a = false := ltL_irr _
theorem ltB_trans {a b c : ByteArray} (h : ltB a b = true) (h2 : ltB b c = true) : ltB a c = true := ltL_trans h h2
theorem ltB_tri (a b : ByteArray) : ltB a b = true ∨ a = b ∨ ltB b a = true := by
  rcases ltL_tri a.toList b.toList with h | h | h
  · exact .inl h
  · exact .inr (.inl (toList_eq'.1 h))
  · exact .inr (.inr h)
theorem ltB_asym {a b : ByteArray} (h : ltB a b = true) : ltB b a = false := by
  cases h2 : ltB b a with
  | false => rfl
  | true => have := ltB_trans h h2; rw [ltB_irr] at this; cases this
theorem ltB_ne {a b : ByteArray} (h : ltB a b = true) : a ≠ b := by
  intro e; subst e; rw [ltB_irr] at h; cases h
theorem leB_iff {a b : ByteArray} : leB a b = true ↔ ltB a b = true ∨ a = b := by
  unfold leB ltB
  rw [Bool.or_eq_true, beq_iff_eq, toList_eq']
theorem leB_not {a b : ByteArray} : leB a b = false ↔ ltB b a = true := by
  constructor
  · intro h
    have h1 : ¬ (ltB a b = true ∨ a = b) := fun e => by rw [← leB_iff, h] at e; cases e
    rcases ltB_tri a b with h2 | h2 | h2
    · exact absurd (.inl h2) h1
    · exact absurd (.inr h2) h1
    · exact h2
  · intro h
    cases h2 : leB a b with
    | false => rfl
    | true =>
      rcases leB_iff.1 h2 with h3 | h3
      · rw [ltB_asym h3] at h; cases h
      · subst h3; rw [ltB_irr] at h; cases h
theorem cmpL_lt : ∀ a b : List UInt8, Lib.compareBytes a b < 0 ↔ Op.bytesLess a b = true
  | [], [] => by simp [Lib.compareBytes, Op.bytesLess]
  | [], _ :: _ => by simp [Lib.compareBytes, Op.bytesLess]
  | _ :: _, [] => by simp [Lib.compareBytes, Op.bytesLess]
  | a :: r, b :: s => by
    have ih := cmpL_lt r s
    unfold Lib.compareBytes Op.bytesLess
    simp only [Bool.or_eq_true, decide_eq_true_eq, Bool.and_eq_true, beq_iff_eq]
    split
    · rename_i h; simp [h]
    · rename_i h
      split
      · rename_i h2
        simp only [h, false_or]
        constructor
        · intro h3; omega
        · rintro ⟨h3, _⟩; subst h3; exact absurd h2 (UInt8.lt_irrefl _)
      · rename_i h2
        have hab : a = b := by
          rw [UInt8.lt_iff_toNat_lt] at h h2
          exact UInt8.toNat_inj.1 (by omega)
        rw [ih]; simp [h, hab]
theorem cmpL_zero : ∀ a b : List UInt8, Lib.compareBytes a b = 0 ↔ a = b
  | [], [] => by simp [Lib.compareBytes]
  | [], _ :: _ => by simp [Lib.compareBytes]
  | _ :: _, [] => by simp [Lib.compareBytes]
  | x :: xs, y :: ys => by
    have ih := cmpL_zero xs ys
    unfold Lib.compareBytes
    split
    · rename_i h
      constructor
      · intro e; cases e
      · intro e; cases e; exact absurd h (UInt8.lt_irrefl x)
    · split
      · rename_i h
        constructor
        · intro e; cases e
        · intro e; cases e; exact absurd h (UInt8.lt_irrefl x)
      · rename_i h1 h2
        have hxy : x = y := by
          rw [UInt8.lt_iff_toNat_lt] at h1 h2
          exact UInt8.toNat_inj.1 (by omega)
        rw [ih, hxy]; simp
theorem cmp_lt {a b : ByteArray} : cmpS a b < 0 ↔ ltB a b = true := by
  unfold cmpS ltB; rw [cmpL_lt, ByteArray.toList_eq, ByteArray.toList_eq]
theorem cmp_zero {a b : ByteArray} : cmpS a b = 0 ↔ a = b := by
  unfold cmpS
  rw [cmpL_zero]
  exact ⟨fun h => ByteArray.ext (Array.toList_inj.1 h), fun h => by rw [h]⟩

instance lawB : LawfulBEq ByteArray where
  eq_of_beq {a b} h := by
    obtain ⟨x⟩ := a
    obtain ⟨y⟩ := b
    have : x = y := eq_of_beq (show (x == y) = true from h)
    rw [this]
  rfl {a} := by
    obtain ⟨x⟩ := a
    exact show (x == x) = true from beq_self_eq_true x

section
variable {α : Type} {key : α → ByteArray}
def Rise (key : α → ByteArray) (l : List α) : Prop := l.Pairwise fun x y => ltB (key x) (key y) = true
theorem Rise.at {l : List α} (h : Rise key l) {i j : Nat} (hij : i < j) (hj : j < l.length) : ltB (key (l[i]'(by omega))) (key l[j]) = true := List.pairwise_iff_getElem.1 h i j (by omega) hj hij
def seqErr (e : Bool → ByteArray → α → Int) (key : α → ByteArray) : Bool → ByteArray → List α → Int
  | _, _, [] => 0
  | f, b, x :: r => if e f b x = 0 then seqErr e key false (key x) r else e f b x
theorem seqErr_first {e : Bool → ByteArray → α → Int} (h : ∀ x, e true ⟨#[]⟩ x = e false ⟨#[]⟩ x) (l : List α) : seqErr e key true ⟨#[]⟩ l = seqErr e key false ⟨#[]⟩ l := by
  cases l with
  | nil => rfl
  | cons x r => simp only [seqErr, h]
theorem seqErr_low {e : Bool → ByteArray → α → Int} (he : ∀ b x, e false b x = 0 → ltB b (key x) = true) : ∀ {l : List α} {b : ByteArray}, seqErr e key false b l = 0 → (∀ x ∈ l, ltB b (key x) = true) ∧ Rise key l
  | [], _, _ => ⟨by simp, List.Pairwise.nil⟩
  | x :: r, b, h => by
    simp only [seqErr] at h
    split at h
    · rename_i h0
      obtain ⟨h1, h2⟩ := seqErr_low he h
      have h3 := he b x h0
      refine ⟨?_, List.pairwise_cons.2 ⟨h1, h2⟩⟩
      intro y hy
      rcases List.mem_cons.1 hy with rfl | hy
      · exact h3
      · exact ltB_trans h3 (h1 y hy)
    · rename_i h0; exact absurd h h0
theorem seqErr_rise {e : Bool → ByteArray → α → Int} (he : ∀ b x, e false b x = 0 → ltB b (key x) = true) {l : List α} {f : Bool} {b : ByteArray} (h : seqErr e key f b l = 0) : Rise key l := by
  cases l with
  | nil => exact List.Pairwise.nil
  | cons x r =>
    simp only [seqErr] at h
    split at h
    · obtain ⟨h1, h2⟩ := seqErr_low he h
      exact List.pairwise_cons.2 ⟨h1, h2⟩
    · rename_i h0; exact absurd h h0
theorem seqErr_all {e : Bool → ByteArray → α → Int} : ∀ {l : List α} {f : Bool} {b : ByteArray}, seqErr e key f b l = 0 → ∀ x ∈ l, ∃ f b, e f b x = 0
  | [], _, _, _, x, hx => by simp at hx
  | y :: r, f, b, h, x, hx => by
    simp only [seqErr] at h
    split at h
    · rename_i h0
      rcases List.mem_cons.1 hx with rfl | hx
      · exact ⟨f, b, h0⟩
      · exact seqErr_all h x hx
    · rename_i h0; exact absurd h h0
theorem seqErr_drop {e : Bool → ByteArray → α → Int} {l : List α} {k : Nat} {f : Bool} {b : ByteArray} (h : k < l.length) : seqErr e key f b (l.drop k) = if e f b l[k] = 0 then seqErr e key false (key l[k]) (l.drop (k + 1)) else e f b l[k] := by
  rw [List.drop_eq_getElem_cons h, seqErr]
def befK (key : α → ByteArray) (l : List α) (k : Nat) : ByteArray := if k = 0 then ⟨#[]⟩ else match l[k - 1]? with | some x => key x | none => ⟨#[]⟩
theorem befK_succ {l : List α} {k : Nat} (h : k < l.length) : befK key l (k + 1) = key l[k] := by
  unfold befK
  rw [if_neg (by omega), Nat.add_sub_cancel, List.getElem?_eq_getElem h]
theorem befK_pos {l : List α} {k : Nat} (h : k ≤ l.length) (h0 : 0 < k) : befK key l k = key (l[k - 1]'(by omega)) := by
  unfold befK
  rw [if_neg (by omega), List.getElem?_eq_getElem (show k - 1 < l.length by omega)]
end
theorem all_succ' {α : Type} {p : α → Bool} {l : List α} {k : Nat} {hk : k < l.length} (hi : ∀ i (h : i < l.length), i < k → p l[i] = false) (h : p l[k] = false) : ∀ i (h : i < l.length), i < k + 1 → p l[i] = false := by
  intro i hi1 hi2
  rcases Nat.lt_or_ge i k with h3 | h3
  · exact hi i hi1 h3
  · have : i = k := by omega
    subst this; exact h
def cntL {α : Type} (c : α → Int) (l : List α) : Nat := (l.takeWhile fun x => decide (c x < 0)).length
def hitL {α : Type} (c : α → Int) (l : List α) : Bool := match l[cntL c l]? with | some x => c x == 0 | none => false
theorem cntL_at {α : Type} {c : α → Int} : ∀ {l : List α} {i : Nat}, i ≤ l.length → (∀ k (h : k < l.length), k < i → c l[k] < 0) → (∀ k (h : k < l.length), i ≤ k → ¬ c l[k] < 0) → cntL c l = i
  | [], i, hi, _, _ => by simp at hi; subst hi; rfl
  | a :: r, i, hi, h1, h2 => by
    unfold cntL
    cases i with
    | zero =>
      have := h2 0 (by simp) (Nat.le_refl _)
      simp only [List.getElem_cons_zero] at this
      simp [List.takeWhile_cons, this]
    | succ i =>
      have h3 := h1 0 (by simp) (by omega)
      simp only [List.getElem_cons_zero] at h3
      have ih := cntL_at (c := c) (l := r) (i := i) (by simpa using hi) (fun k hk hki => by have := h1 (k + 1) (by simpa using hk) (by omega); simpa using this) (fun k hk hki => by have := h2 (k + 1) (by simpa using hk) (by omega); simpa using this)
      simp only [List.takeWhile_cons, h3, decide_true, if_true, List.length_cons]
      unfold cntL at ih
      rw [ih]
theorem mid_eq {i j : Nat} (h : i + j ≤ 4000000) : IntKind.i64.wrap (shV .shr .u64 (IntKind.u64.wrap (IntKind.i64.wrap ((i : Int) + (j : Int)))) 1) = (((i + j) / 2 : Nat) : Int) := by
  have e1 : IntKind.i64.wrap ((i : Int) + (j : Int)) = ((i + j : Nat) : Int) := by rw [wrap_in (by omega) (by omega)]; omega
  have e2 : IntKind.u64.wrap ((i + j : Nat) : Int) = ((i + j : Nat) : Int) := IntWalk.u64_in _ ⟨by omega, by omega⟩
  rw [e1, e2]
  have e3 : shV .shr .u64 ((i + j : Nat) : Int) 1 = (((i + j) / 2 : Nat) : Int) := by
    show Int.fdiv ((i + j : Nat) : Int) 2 = _
    rw [Int.fdiv_eq_ediv_of_nonneg _ (by omega)]; omega
  rw [e3, wrap_in (by omega) (by omega)]
theorem cntL_cons {α : Type} (c : α → Int) (a : α) (r : List α) : cntL c (a :: r) = if c a < 0 then cntL c r + 1 else 0 := by
  unfold cntL
  rw [List.takeWhile_cons]
  by_cases h : c a < 0 <;> simp [h]
theorem find_rise {α : Type} {key : α → ByteArray} {c : α → Int} {k : ByteArray} (hc : ∀ x, (c x < 0 ↔ ltB (key x) k = true) ∧ (c x = 0 ↔ key x = k)) : ∀ {l : List α}, Rise key l → (l.find? fun x => decide (key x = k)) = if hitL c l then l[cntL c l]? else none
  | [], _ => by simp [hitL, cntL]
  | a :: r, h => by
    obtain ⟨h1, h2⟩ := List.pairwise_cons.1 h
    have ih := find_rise hc h2
    by_cases ha : c a < 0
    · have hne : ¬ key a = k := fun e => by have := (hc a).2.2 e; omega
      have hh : hitL c (a :: r) = hitL c r := by unfold hitL; rw [cntL_cons, if_pos ha, List.getElem?_cons_succ]
      rw [List.find?_cons, hh, cntL_cons, if_pos ha, List.getElem?_cons_succ, ← ih]
      simp [hne]
    · have hh : hitL c (a :: r) = (c a == 0) := by unfold hitL; rw [cntL_cons, if_neg ha]; rfl
      rw [List.find?_cons, hh, cntL_cons, if_neg ha]
      by_cases h0 : c a = 0
      · simp [(hc a).2.1 h0, h0]
      · have hne : ¬ key a = k := fun e => h0 ((hc a).2.2 e)
        have hlt : ltB k (key a) = true := by
          rcases ltB_tri (key a) k with h3 | h3 | h3
          · exact absurd ((hc a).1.2 h3) ha
          · exact absurd h3 hne
          · exact h3
        have hn : r.find? (fun x => decide (key x = k)) = none := by
          rw [List.find?_eq_none]
          intro x hx
          have h3 := ltB_trans hlt (h1 x hx)
          simpa using (ltB_ne h3).symm
        simp [hne, h0, hn]
theorem rise_mono {α : Type} {key : α → ByteArray} {c : α → Int} {k : ByteArray} (hc : ∀ x, c x < 0 ↔ ltB (key x) k = true) {l : List α} (h : Rise key l) : ∀ i j (hj : j < l.length) (hij : i ≤ j), c l[j] < 0 → c (l[i]'(by omega)) < 0 := by
  intro i j hj hij hlt
  rcases Nat.lt_or_ge i j with h1 | h1
  · exact (hc _).2 (ltB_trans (h.at h1 hj) ((hc _).1 hlt))
  · have : i = j := by omega
    subst this; exact hlt
theorem rise_nodup {α : Type} {key : α → ByteArray} {l : List α} (h : Rise key l) : (l.map key).Nodup := by
  rw [List.Nodup, List.pairwise_map]
  exact h.imp fun h => ltB_ne h
theorem rise_find {α : Type} {key : α → ByteArray} {l : List α} (h : Rise key l) {x : α} (hx : x ∈ l) : (l.find? fun y => decide (key y = key x)) = some x := by
  induction l with
  | nil => simp at hx
  | cons a r ih =>
    obtain ⟨h1, h2⟩ := List.pairwise_cons.1 h
    rw [List.find?_cons]
    rcases List.mem_cons.1 hx with rfl | hx
    · simp
    · have := ltB_ne (h1 x hx)
      simp [this, ih h2 hx]
end Go.Proofs.YtbdlhiogjnbhjaaGreat

namespace Go.Proofs.YtbdlhiogjnbhjaaGreat
set_option linter.unusedVariables false
set_option linter.unusedSimpArgs false
open Abs

structure Du where
  key : ByteArray
  a : ByteArray
  b : ByteArray
  long : Int
  inner : Int
def encDu (x : Du) : List V := [.str x.key, .str x.a, .str x.b, .int .i64 x.long, .int .i64 x.inner]
structure Ly where
  cable : ByteArray
  outer : Int
  ducts : List ByteArray
def encLy (x : Ly) : List V := [.str x.cable, .int .i64 x.outer, .lst 1 (x.ducts.map encS)]

def keyErr (has : ByteArray → Bool) (first : Bool) (before k : ByteArray) : Int := if !has k then 8 else if !first && leB k before then 7 else 0
def duErr (first : Bool) (before : ByteArray) (x : Du) : Int :=
  if !keyB x.key || !keyB x.a || !keyB x.b then 5 else if x.a = x.b then 6 else if x.long < 1 ∨ 200000 < x.long ∨ x.inner < 1 ∨ 1000 < x.inner then 1 else if !first && leB x.key before then 7 else 0
def duFault (l : List Du) : Int := if 300 < l.length then 2 else seqErr duErr Du.key true ⟨#[]⟩ l
def duAt (d : List Du) (k : ByteArray) : Option Du := d.find? fun x => decide (x.key = k)
def du0 : Du := ⟨⟨#[]⟩, ⟨#[]⟩, ⟨#[]⟩, 0, 0⟩
def duG (d : List Du) (k : ByteArray) : Du := (duAt d k).getD du0
def hasD (d : List Du) (k : ByteArray) : Bool := (duAt d k).isSome
def cabErr (d : List Du) (x : Ly) : Int :=
  if x.outer < 1 ∨ 1000 < x.outer then 1 else if x.ducts.length = 0 then 8 else if 300 < x.ducts.length then 2 else seqErr (keyErr (hasD d)) id true ⟨#[]⟩ x.ducts
def lyErr (d : List Du) (first : Bool) (before : ByteArray) (x : Ly) : Int :=
  if !keyB x.cable then 5 else if !first && leB x.cable before then 7 else cabErr d x
def lysErr (d : List Du) (l : List Ly) : Int := seqErr (lyErr d) Ly.cable true ⟨#[]⟩ l
def inL (l : List Ly) (k : ByteArray) : List Ly := l.filter fun x => decide (k ∈ x.ducts)
def fullL (d : List Du) (l : List Ly) : Bool := d.any fun x => decide (20 < (inL l x.key).length)
def lyFault (d : List Du) (l : List Ly) : Int := if duFault d ≠ 0 then duFault d else if 300 < l.length then 2 else if lysErr d l ≠ 0 then lysErr d l else if fullL d l then 12 else 0

structure DuOk (d : List Du) : Prop where
  rise : Rise Du.key d
  len : d.length ≤ 300
  each : ∀ x ∈ d, keyB x.key = true ∧ 1 ≤ x.long ∧ x.long ≤ 200000 ∧ 1 ≤ x.inner ∧ x.inner ≤ 1000
theorem duErr_ok {f : Bool} {b : ByteArray} {x : Du} (h : duErr f b x = 0) : keyB x.key = true ∧ 1 ≤ x.long ∧ x.long ≤ 200000 ∧ 1 ≤ x.inner ∧ x.inner ≤ 1000 ∧ (f = false → ltB b x.key = true) := by
  unfold duErr at h
  split at h
  · omega
  · split at h
    · omega
    · split at h
      · omega
      · split at h
        · omega
        · rename_i h1 h2 h3 h4
          simp only [Bool.or_eq_true, Bool.not_eq_true', not_or, Bool.not_eq_false] at h1
          refine ⟨h1.1.1, by omega, by omega, by omega, by omega, fun hf => ?_⟩
          subst hf
          simp at h4
          exact leB_not.1 h4
theorem duFault_ok {d : List Du} (h : duFault d = 0) : DuOk d := by
  unfold duFault at h
  split at h
  · omega
  · refine ⟨seqErr_rise (fun b x hx => (duErr_ok hx).2.2.2.2.2 rfl) h, by omega, fun x hx => ?_⟩
    obtain ⟨f, b, h1⟩ := seqErr_all h x hx
    have := duErr_ok h1
    exact ⟨this.1, this.2.1, this.2.2.1, this.2.2.2.1, this.2.2.2.2.1⟩
theorem duErr_first (x : Du) : duErr true ⟨#[]⟩ x = duErr false ⟨#[]⟩ x := by
  unfold duErr
  by_cases h : keyB x.key = true
  · simp [leB_nil _ h]
  · simp [h]
theorem duAt_some {d : List Du} {k : ByteArray} {x : Du} (h : duAt d k = some x) : x ∈ d ∧ x.key = k := by
  unfold duAt at h
  have h1 := List.find?_some h
  exact ⟨List.mem_of_find?_eq_some h, by simpa using h1⟩
theorem hasD_iff {d : List Du} {k : ByteArray} : hasD d k = true ↔ ∃ x ∈ d, x.key = k := by
  unfold hasD duAt
  rw [List.find?_isSome]; simp
theorem duAt_mem {d : List Du} (h : DuOk d) {x : Du} (hx : x ∈ d) : duAt d x.key = some x := rise_find h.rise hx
theorem duG_mem {d : List Du} (h : DuOk d) {x : Du} (hx : x ∈ d) : duG d x.key = x := by unfold duG; rw [duAt_mem h hx]; rfl
theorem hasD_key {d : List Du} (h : DuOk d) {k : ByteArray} (hk : hasD d k = true) : keyB k = true := by
  obtain ⟨x, hx, rfl⟩ := hasD_iff.1 hk
  exact (h.each x hx).1
theorem keyErr_first {d : List Du} (h : DuOk d) (k : ByteArray) : keyErr (hasD d) true ⟨#[]⟩ k = keyErr (hasD d) false ⟨#[]⟩ k := by
  unfold keyErr
  by_cases hk : hasD d k = true
  · simp [leB_nil _ (hasD_key h hk)]
  · simp [hk]
theorem keyErr_ok {has : ByteArray → Bool} {f : Bool} {b k : ByteArray} (h : keyErr has f b k = 0) : has k = true ∧ (f = false → ltB b k = true) := by
  unfold keyErr at h
  split at h
  · omega
  · split at h
    · omega
    · rename_i h1 h2
      refine ⟨by simpa using h1, fun hf => ?_⟩
      subst hf
      simp at h2
      exact leB_not.1 h2
structure LyX (d : List Du) (x : Ly) : Prop where
  out : 1 ≤ x.outer ∧ x.outer ≤ 1000
  len : x.ducts.length ≤ 300
  rise : Rise id x.ducts
  has : ∀ k ∈ x.ducts, hasD d k = true
theorem lyErr_ok {d : List Du} {f : Bool} {b : ByteArray} {x : Ly} (h : lyErr d f b x = 0) : LyX d x ∧ keyB x.cable = true ∧ (f = false → ltB b x.cable = true) := by
  unfold lyErr cabErr at h
  split at h
  · omega
  · split at h
    · omega
    · split at h
      · omega
      · split at h
        · omega
        · split at h
          · omega
          · rename_i h1 h2 h3 h4 h5
            refine ⟨⟨by omega, by omega, seqErr_rise (fun b k hk => (keyErr_ok hk).2 rfl) h, fun k hk => ?_⟩, by simpa using h1, fun hf => ?_⟩
            · obtain ⟨f, b, h1⟩ := seqErr_all h k hk
              exact (keyErr_ok h1).1
            · subst hf
              simp at h2
              exact leB_not.1 h2
theorem lyErr_first {d : List Du} (x : Ly) : lyErr d true ⟨#[]⟩ x = lyErr d false ⟨#[]⟩ x := by
  unfold lyErr
  by_cases h : keyB x.cable = true
  · simp [leB_nil _ h]
  · simp [h]
structure LyOk (d : List Du) (l : List Ly) : Prop where
  du : DuOk d
  len : l.length ≤ 300
  rise : Rise Ly.cable l
  each : ∀ x ∈ l, LyX d x
  few : ∀ x ∈ d, (inL l x.key).length ≤ 20
theorem lysErr_ok {d : List Du} {l : List Ly} (h : lysErr d l = 0) : Rise Ly.cable l ∧ ∀ x ∈ l, LyX d x := by
  refine ⟨seqErr_rise (fun b x hx => (lyErr_ok hx).2.2 rfl) h, fun x hx => ?_⟩
  obtain ⟨f, b, h1⟩ := seqErr_all h x hx
  exact (lyErr_ok h1).1
theorem lyFault_ok {d : List Du} {l : List Ly} (h : lyFault d l = 0) : LyOk d l := by
  unfold lyFault at h
  split at h
  · omega
  · split at h
    · omega
    · split at h
      · omega
      · split at h
        · omega
        · rename_i h1 h2 h3 h4
          obtain ⟨h5, h6⟩ := lysErr_ok (show lysErr d l = 0 by omega)
          refine ⟨duFault_ok (by omega), by omega, h5, h6, fun x hx => ?_⟩
          unfold fullL at h4
          rw [List.any_eq_true] at h4
          rcases Nat.lt_or_ge 20 (inL l x.key).length with h7 | h7
          · exact absurd ⟨x, hx, by simpa using h7⟩ h4
          · exact h7
theorem count_nd {k : ByteArray} : ∀ {l : List ByteArray}, l.Nodup → l.count k = if k ∈ l then 1 else 0
  | [], _ => by simp
  | a :: r, h => by
    obtain ⟨h1, h2⟩ := List.nodup_cons.1 h
    rw [List.count_cons, count_nd h2]
    by_cases e : a = k
    · subst e; simp [h1]
    · have e' : ¬ k = a := fun x => e x.symm
      simp [e, e']
theorem flat_count {d : List Du} {k : ByteArray} : ∀ {l : List Ly}, (∀ x ∈ l, LyX d x) → (l.flatMap Ly.ducts).count k = (inL l k).length
  | [], _ => by simp [inL]
  | a :: r, h => by
    have ih := flat_count (k := k) (l := r) (fun x hx => h x (by simp [hx]))
    have hn : a.ducts.Nodup := by have := rise_nodup (h a (by simp)).rise; simpa using this
    rw [List.flatMap_cons, List.count_append, ih, count_nd hn]
    unfold inL
    rw [List.filter_cons]
    by_cases e : k ∈ a.ducts <;> simp [e]; omega
def manyB (ks : List ByteArray) : Bool := ks.any fun k => decide (20 < ks.count k)
theorem many_full {d : List Du} {l : List Ly} (h : ∀ x ∈ l, LyX d x) : manyB (l.flatMap Ly.ducts) = fullL d l := by
  rw [Bool.eq_iff_iff]
  unfold manyB fullL
  rw [List.any_eq_true, List.any_eq_true]
  constructor
  · rintro ⟨k, hk, h1⟩
    obtain ⟨x, hx, hkx⟩ := List.mem_flatMap.1 hk
    obtain ⟨y, hy, rfl⟩ := hasD_iff.1 ((h x hx).has k hkx)
    refine ⟨y, hy, ?_⟩
    rw [flat_count h] at h1; exact h1
  · rintro ⟨x, hx, h1⟩
    rw [← flat_count h] at h1
    have h2 : 20 < (l.flatMap Ly.ducts).count x.key := by simpa using h1
    exact ⟨x.key, List.count_pos_iff.1 (by omega), h1⟩
theorem many_push (ks : List ByteArray) (k : ByteArray) : manyB (ks ++ [k]) = (manyB ks || decide (20 < ks.count k + 1)) := by
  rw [Bool.eq_iff_iff, Bool.or_eq_true]
  unfold manyB
  rw [List.any_eq_true, List.any_eq_true]
  simp only [decide_eq_true_eq, List.count_append]
  constructor
  · rintro ⟨x, hx, h⟩
    by_cases e : x = k
    · subst e; right; simpa using h
    · left
      have : [k].count x = 0 := by rw [List.count_eq_zero]; simpa using e
      rw [this] at h
      refine ⟨x, ?_, by omega⟩
      exact List.count_pos_iff.1 (by omega)
  · rintro (⟨x, hx, h⟩ | h)
    · exact ⟨x, by simp [hx], by omega⟩
    · exact ⟨k, by simp, by simpa using h⟩

theorem sum_take {α : Type} (f : α → Int) (l : List α) (k : Nat) (h : k < l.length) : ((l.take (k + 1)).map f).sum = ((l.take k).map f).sum + f l[k] := by
  rw [List.take_succ_eq_append_getElem h, List.map_append, List.sum_append]; simp
theorem sum_in {α : Type} {f : α → Int} {B : Int} : ∀ {l : List α}, (∀ x ∈ l, 0 ≤ f x ∧ f x ≤ B) → 0 ≤ (l.map f).sum ∧ (l.map f).sum ≤ B * l.length
  | [], _ => by simp
  | x :: r, h => by
    have h1 := h x (by simp)
    have ih := sum_in (l := r) (fun y hy => h y (by simp [hy]))
    simp only [List.map_cons, List.sum_cons, List.length_cons]
    have : B * ((r.length + 1 : Nat) : Int) = B * r.length + B := by rw [Int.natCast_add, Int.mul_add]; simp
    omega
def sqV (l : List Int) : Int := (l.map fun x => x * x).sum
def partV (n : Nat) : Int := if n = 1 then 53 else if n = 2 then 31 else 40
def roomB (inner : Int) (l : List Int) : Bool := decide (100 * sqV l ≤ partV l.length * inner * inner) && !(l.any fun n => decide (inner < n))
def mostV (inner : Int) (all : List Int) (outer : Int) : Nat → Nat
  | 0 => 0
  | n + 1 => if roomB inner (all ++ List.replicate (n + 1) outer) then n + 1 else mostV inner all outer n
theorem sq_in {l : List Int} (h : ∀ x ∈ l, 0 ≤ x ∧ x ≤ 1000) : 0 ≤ sqV l ∧ sqV l ≤ 1000000 * l.length := by
  refine sum_in fun x hx => ?_
  have := h x hx
  exact ⟨Int.mul_nonneg this.1 this.1, by have := Int.mul_le_mul this.2 this.2 this.1 (by omega : (0 : Int) ≤ 1000); omega⟩
def outV (l : List Ly) (k : ByteArray) : List Int := (inL l k).map Ly.outer
theorem find_idx {α : Type} (p : α → Bool) : ∀ l : List α, l.find? p = l[l.findIdx p]?
  | [] => by simp
  | a :: r => by
    rw [List.find?_cons, List.findIdx_cons]
    cases h : p a <;> simp [find_idx p r]
end Go.Proofs.YtbdlhiogjnbhjaaGreat

namespace Go.Proofs.YtbdlhiogjnbhjaaGreat
set_option linter.unusedVariables false
set_option linter.unusedSimpArgs false
open Abs

def idxP {α : Type} (p : α → Bool) (l : List α) : Int := if l.any p then (l.findIdx p : Int) else -1
theorem idxP_hit {α : Type} {p : α → Bool} {l : List α} {k : Nat} (hk : k < l.length) (h : ∀ i (hi : i < k), p (l[i]'(by omega)) = false) (hp : p l[k] = true) : idxP p l = k := by
  have h1 : l.any p = true := List.any_eq_true.2 ⟨_, List.getElem_mem hk, hp⟩
  have h2 : l.findIdx p = k := by
    rw [List.findIdx_eq hk]
    exact ⟨hp, fun j hj => by simpa using h j hj⟩
  rw [idxP, if_pos h1, h2]
theorem idxP_miss {α : Type} {p : α → Bool} {l : List α} (h : ∀ i (hi : i < l.length), p l[i] = false) : idxP p l = -1 := by
  have h1 : ¬ l.any p = true := by
    rw [List.any_eq_true]
    rintro ⟨x, hx, hp⟩
    obtain ⟨i, hi, rfl⟩ := List.getElem_of_mem hx
    rw [h i hi] at hp; cases hp
  rw [idxP, if_neg h1]
theorem idxP_any {α : Type} (p : α → Bool) (l : List α) : decide (0 ≤ idxP p l) = l.any p := by
  unfold idxP
  cases l.any p <;> simp
end Go.Proofs.YtbdlhiogjnbhjaaGreat

namespace Go.Proofs.YtbdlhiogjnbhjaaGreat
set_option linter.unusedVariables false
set_option linter.unusedSimpArgs false
open Abs

set_option maxRecDepth 100000 in
set_option maxHeartbeats 4000000 in
theorem ixDuK_pc (key : ByteArray) (g : Nat) (p : Du → Bool) (l : List Du) (hl : l.length ≤ 1000000) (hg : ∀ x ∈ l, PCp g [.agg (encDu x), .c (.ptr 0 0)] [.box [.str key]] (.c (.bool (p x))) [.box [.str key]]) : PCp 84 [.c (.lst 5 (l.map encDu)), .c (.fn g [.ptr 0 0])] [.box [.str key]] (.c (.int .i64 (idxP p l))) [.box [.str key]] := by
  have hlm : (l.map encDu).length = l.length := List.length_map ..
  refine fn_sound (mt := mts) tab_fits tab_mixed Tryz.func84 (by rfl) (by kernel_rfl) (by kernel_rfl) Tryz.results84 (Nat.le_of_ble_eq_true (by kernel_rfl)) ?_
  conv => whnf
  refine loop_count (l.length) [] [0, 1, 7, 8] (fun k (_ : Unit) => ⟨[(0, .c (.lst 5 (l.map encDu))), (1, .c (.fn g [.ptr 0 0])), (7, .c (.int .i64 (l.map encDu).length)), (8, .c (.int .i64 k))], [(0, .box [.str key])], 1⟩) (fun k (_ : Unit) => ∀ i (hi : i < l.length), i < k → p l[i] = false) (()) ?_ ?_ ?_
  · conv => whnf
    exact ⟨rfl, by intro i hi h; omega⟩
  · intro k _ hk hi
    conv => whnf
    repeat' (first | (refine CondG.mk (fun h => ?_) (fun h => ?_) <;> (try simp only [decide_eq_true_eq, decide_eq_false_iff_not, Bool.not_eq_true', Bool.not_eq_false', beq_iff_eq, beq_eq_false_iff_ne, bne_iff_ne, bne_eq_false_iff_eq] at h) <;> (first | (exfalso; first | omega | exact h trivial) | (conv => whnf))) | (refine  CallX.mk _ _ (by exact hg l[k] (List.getElem_mem hk)) ?_; conv => whnf) | (refine idx_at _ (by with_reducible rfl) (by first | assumption | omega) ?_; conv => whnf) | fail)
    · exact .mk ⟨by rw [idxP_hit hk (fun i hi' => hi i (by omega) hi') h]; rfl, rfl⟩
    · refine count_next () hk (by rw [wrap_succ hk (by omega)]; rfl) ?_
      exact all_succ' hi h
  · intro _ hi
    conv => whnf
    repeat' (first | (refine CondG.mk (fun h => ?_) (fun h => ?_) <;> (try simp only [decide_eq_true_eq, decide_eq_false_iff_not, Bool.not_eq_true', Bool.not_eq_false', beq_iff_eq, beq_eq_false_iff_ne] at h) <;> (first | (exfalso; first | omega | exact h trivial) | (conv => whnf))) | fail)
    exact .mk ⟨by rw [idxP_miss (fun i h => hi i h h)]; rfl, rfl⟩
set_option maxRecDepth 100000 in
set_option maxHeartbeats 4000000 in
theorem ixDuKC_pc (key : ByteArray) (g : Nat) (p : Du → Bool) (l : List Du) (hl : l.length ≤ 1000000) (hg : ∀ x ∈ l, PCp g [.agg (encDu x), .c (.ptr 0 0)] [.box [.str key]] (.c (.bool (p x))) [.box [.str key]]) : PCp 47 [.c (.lst 5 (l.map encDu)), .c (.fn g [.ptr 0 0])] [.box [.str key]] (.c (.bool (l.any p))) [.box [.str key]] := by
  refine fn_sound (mt := mts) tab_fits tab_mixed Tryz.func47 (by rfl) (by kernel_rfl) (by kernel_rfl) Tryz.results47 (Nat.le_of_ble_eq_true (by kernel_rfl)) ?_
  conv => whnf
  repeat' (first | (refine  CallX.mk _ _ (by exact ixDuK_pc key g p l hl hg) ?_; conv => whnf) | fail)
  exact .mk ⟨by rw [← idxP_any]; rfl, rfl⟩
def isStr (t : S) : Prop := ∃ key : ByteArray, t = .c (.str key)
set_option maxRecDepth 100000 in
set_option maxHeartbeats 4000000 in
theorem bsDu_pc (g : Nat) (c : Du → Int) (t : S) (l : List Du) (hl : l.length ≤ 1000000) (hmono : ∀ i j (hj : j < l.length) (hij : i ≤ j), c l[j] < 0 → c (l[i]'(by omega)) < 0) (ht : isStr t) (hg : ∀ x ∈ l, PCp g [.agg (encDu x), t] [] (.c (.int .i64 (c x))) []) :
    PCp 140 [.c (.lst 5 (l.map encDu)), t, .c (.fn g [])] [] (.tup [.c (.int .i64 ((cntL c l : Nat) : Int)), .c (.bool (hitL c l))]) [] := by
  have hlm : (l.map encDu).length = l.length := List.length_map ..
  obtain ⟨key, rfl⟩ := ht
  refine fn_sound (mt := mts) tab_fits tab_mixed Tryz.func140 (by rfl) (by kernel_rfl) (by kernel_rfl) Tryz.results140 (Nat.le_of_ble_eq_true (by kernel_rfl)) ?_
  conv => whnf
  refine loop_meas2 (fun (i : Nat) (j : Nat) => j - i) [] [0, 1, 2, 8, 9, 10] (fun (i : Nat) (j : Nat) => ⟨[(0, .c (.lst 5 (l.map encDu))), (1, .c (.str key)), (2, .c (.fn g [])), (8, .c (.int .i64 (l.map encDu).length)), (9, .c (.int .i64 ((i : Nat) : Int))), (10, .c (.int .i64 ((j : Nat) : Int)))], [], 0⟩) (fun (i : Nat) (j : Nat) => i ≤ j ∧ j ≤ l.length ∧ (∀ k (h : k < l.length), k < i → c l[k] < 0) ∧ (∀ k (h : k < l.length), j ≤ k → ¬ c l[k] < 0)) (0) (l.length) ?_ ?_
  · conv => whnf
    exact ⟨by rw [hlm]; rfl, Nat.zero_le _, Nat.le_refl _, by intro k h h2; omega, by intro k h h2; omega⟩
  · intro i j ⟨h1, h2, h3, h4⟩
    have hmid := mid_eq (i := i) (j := j) (by omega)
    conv => whnf
    repeat' (first | (refine .mk (fun h => ?_) (fun h => ?_) <;> (try simp only [decide_eq_true_eq, decide_eq_false_iff_not, Bool.not_eq_true', Bool.not_eq_false', beq_iff_eq, beq_eq_false_iff_ne, bne_iff_ne, bne_eq_false_iff_eq] at h) <;> (first | (exfalso; first | omega | exact h trivial) | (conv => whnf))) | (refine .mk (by first | omega | (unfold roomOK; simp [cutRows]; done) | (unfold roomOK; simp [cutRows]; omega) | (simp [cutRows]; done) | (simp [cutRows]; omega)) ?_; conv => whnf) | (refine idx_at _ (by with_reducible rfl) (by first | assumption | omega) ?_; conv => whnf) | fail)
    · rw [hmid]
      refine idx_map ((i + j) / 2) (by omega) rfl ?_
      conv => whnf
      repeat' (first | (refine CondG.mk (fun h => ?_) (fun h => ?_) <;> (try simp only [decide_eq_true_eq, decide_eq_false_iff_not, Bool.not_eq_true', Bool.not_eq_false', beq_iff_eq, beq_eq_false_iff_ne] at h) <;> (first | (exfalso; first | omega | exact h trivial) | (conv => whnf))) | (refine  CallX.mk _ _ (by exact hg (l[(i + j) / 2]'(by omega)) (List.getElem_mem _)) ?_; conv => whnf) | fail)
      · exact meas_next ((i + j) / 2 + 1, j) (by simp only; omega) (by rw [wrap_succ (n := l.length) (by omega) (by omega)]; rfl) ⟨by simp only; omega, h2, fun k hk hki => hmono k ((i + j) / 2) (by omega) (by simp only at hki; omega) h, h4⟩
      · exact meas_next (i, (i + j) / 2) (by simp only; omega) rfl ⟨by simp only; omega, by simp only; omega, h3, fun k hk hki => fun hc => h (hmono ((i + j) / 2) k hk hki hc)⟩
    all_goals
      have hij : i = j := by omega
      subst hij
      have hci : cntL c l = i := cntL_at h2 h3 h4
    · repeat' (first
        | (refine CallX.mk _ _ (by exact hg (l[i]'(by omega)) (List.getElem_mem _)) ?_; conv => whnf)
        | fail)
      exact .mk ⟨by rw [hitL, hci, List.getElem?_eq_getElem (show i < l.length by omega)]; rfl, rfl⟩
    · exact .mk ⟨by rw [hitL, hci, List.getElem?_eq_none (show l.length ≤ i by omega)]; rfl, rfl⟩
end Go.Proofs.YtbdlhiogjnbhjaaGreat

namespace Go.Proofs.YtbdlhiogjnbhjaaGreat
set_option linter.unusedVariables false
set_option linter.unusedSimpArgs false
open Abs

set_option maxRecDepth 100000 in
set_option maxHeartbeats 4000000 in
theorem isNaNS_pc (s : ByteArray) : PCp 194 [.c (.str s)] [] (.c (.bool false)) [] := by
  refine fn_sound (mt := mts) tab_fits tab_mixed Tryz.func194 (by rfl) (by kernel_rfl) (by kernel_rfl) Tryz.results194 (Nat.le_of_ble_eq_true (by kernel_rfl)) ?_
  conv => whnf
  exact finb (by simp)
set_option maxRecDepth 100000 in
set_option maxHeartbeats 4000000 in
theorem cisNaNS_pc (s : ByteArray) : PCp 153 [.c (.str s)] [] (.c (.bool false)) [] := by
  refine fn_sound (mt := mts) tab_fits tab_mixed Tryz.func153 (by rfl) (by kernel_rfl) (by kernel_rfl) Tryz.results153 (Nat.le_of_ble_eq_true (by kernel_rfl)) ?_
  conv => whnf
  exact finb (by simp)
set_option maxRecDepth 100000 in
set_option maxHeartbeats 4000000 in
theorem lessS_pc (a b : ByteArray) : PCp 105 [.c (.str a), .c (.str b)] [] (.c (.bool (ltB a b))) [] := by
  refine fn_sound (mt := mts) tab_fits tab_mixed Tryz.func105 (by rfl) (by kernel_rfl) (by kernel_rfl) Tryz.results105 (Nat.le_of_ble_eq_true (by kernel_rfl)) ?_
  conv => whnf
  repeat' (first | (refine Split.mk (fun h => ?_) (fun h => ?_) <;> (try simp only [decide_eq_true_eq, decide_eq_false_iff_not, Bool.not_eq_true', Bool.not_eq_false', beq_iff_eq, beq_eq_false_iff_ne, bne_iff_ne, bne_eq_false_iff_eq] at h) <;> (first | (exfalso; first | omega | exact h trivial) | (conv => whnf))) | (refine  CallX.mk _ _ (by exact cisNaNS_pc _) ?_; conv => whnf) | fail)
  all_goals exact finb (by simp_all [ltB])
def cntS (t : ByteArray) (l : List ByteArray) : Nat := cntL (fun x => if ltB x t then -1 else if x.toList = t.toList then 0 else 1) l
def hitS (t : ByteArray) (l : List ByteArray) : Bool := hitL (fun x => if ltB x t then -1 else if x.toList = t.toList then 0 else 1) l
set_option maxRecDepth 100000 in
set_option maxHeartbeats 4000000 in
theorem binS_pc (t : ByteArray) (l : List ByteArray) (hl : l.length ≤ 1000000) (hmono : ∀ i j (hj : j < l.length) (hij : i ≤ j), ltB l[j] t = true → ltB (l[i]'(by omega)) t = true) :
    PCp 165 [.c (.lst 1 (l.map encS)), .c (.str t)] [] (.tup [.c (.int .i64 ((cntS t l : Nat) : Int)), .c (.bool (hitS t l))]) [] := by
  have hlm : (l.map encS).length = l.length := List.length_map ..
  have hc : ∀ x : ByteArray, (if ltB x t then (-1 : Int) else if x.toList = t.toList then 0 else 1) < 0 ↔ ltB x t = true := by
    intro x; split
    · simp_all
    · split <;> simp_all
  refine fn_sound (mt := mts) tab_fits tab_mixed Tryz.func165 (by rfl) (by kernel_rfl) (by kernel_rfl) Tryz.results165 (Nat.le_of_ble_eq_true (by kernel_rfl)) ?_
  conv => whnf
  refine loop_meas2 (fun (i : Nat) (j : Nat) => j - i) [] [0, 1, 6, 7, 8] (fun (i : Nat) (j : Nat) => ⟨[(0, .c (.lst 1 (l.map encS))), (1, .c (.str t)), (6, .c (.int .i64 (l.map encS).length)), (7, .c (.int .i64 ((i : Nat) : Int))), (8, .c (.int .i64 ((j : Nat) : Int)))], [], 0⟩) (fun (i : Nat) (j : Nat) => i ≤ j ∧ j ≤ l.length ∧ (∀ k (h : k < l.length), k < i → ltB l[k] t = true) ∧ (∀ k (h : k < l.length), j ≤ k → ¬ ltB l[k] t = true)) (0) (l.length) ?_ ?_
  · conv => whnf
    exact ⟨by rw [hlm]; rfl, Nat.zero_le _, Nat.le_refl _, by intro k h h2; omega, by intro k h h2; omega⟩
  · intro i j ⟨h1, h2, h3, h4⟩
    have hmid := mid_eq (i := i) (j := j) (by omega)
    conv => whnf
    repeat' (first | (refine .mk (fun h => ?_) (fun h => ?_) <;> (try simp only [decide_eq_true_eq, decide_eq_false_iff_not, Bool.not_eq_true', Bool.not_eq_false', beq_iff_eq, beq_eq_false_iff_ne, bne_iff_ne, bne_eq_false_iff_eq] at h) <;> (first | (exfalso; first | omega | exact h trivial) | (conv => whnf))) | (refine .mk (by first | omega | (unfold roomOK; simp [cutRows]; done) | (unfold roomOK; simp [cutRows]; omega) | (simp [cutRows]; done) | (simp [cutRows]; omega)) ?_; conv => whnf) | (refine idx_at _ (by with_reducible rfl) (by first | assumption | omega) ?_; conv => whnf) | fail)
    · rw [hmid]
      refine idx_map ((i + j) / 2) (by omega) rfl ?_
      conv => whnf
      repeat' (first | (refine CondG.mk (fun h => ?_) (fun h => ?_) <;> (try simp only [decide_eq_true_eq, decide_eq_false_iff_not, Bool.not_eq_true', Bool.not_eq_false', beq_iff_eq, beq_eq_false_iff_ne] at h) <;> (first | (exfalso; first | omega | exact h trivial) | (conv => whnf))) | (refine  CallX.mk _ _ (by exact lessS_pc _ _) ?_; conv => whnf) | fail)
      · exact meas_next ((i + j) / 2 + 1, j) (by simp only; omega) (by rw [wrap_succ (n := l.length) (by omega) (by omega)]; rfl) ⟨by simp only; omega, h2, fun k hk hki => hmono k ((i + j) / 2) (by omega) (by simp only at hki; omega) h, h4⟩
      · exact meas_next (i, (i + j) / 2) (by simp only; omega) rfl ⟨by simp only; omega, by simp only; omega, h3, fun k hk hki => fun hc => (by rw [hmono ((i + j) / 2) k hk hki hc] at h; cases h)⟩
    all_goals
      have hij : i = j := by omega
      subst hij
      have hci : cntS t l = i := cntL_at h2 (fun k hk hki => (hc _).2 (h3 k hk hki)) (fun k hk hki => fun e => h4 k hk hki ((hc _).1 e))
    · have hh : hitS t l = true := by
        unfold hitS hitL
        unfold cntS at hci
        rw [hci, List.getElem?_eq_getElem (show i < l.length by omega)]
        have h5 : ltB (l[i]'(by omega)) t = false := by simpa using h4 i (by omega) (Nat.le_refl _)
        have h6 : (l[i]'(by omega)).toList = t.toList := by assumption
        simp [h5, h6]
      exact .mk ⟨by rw [hci, hh]; rfl, rfl⟩
    · have hh : hitS t l = false := by
        unfold hitS hitL
        unfold cntS at hci
        rw [hci, List.getElem?_eq_getElem (show i < l.length by omega)]
        have h5 : ltB (l[i]'(by omega)) t = false := by simpa using h4 i (by omega) (Nat.le_refl _)
        have h6 : ¬ (l[i]'(by omega)).toList = t.toList := by assumption
        simp [h5, h6]
      repeat' (first | (refine Split.mk (fun h => ?_) (fun h => ?_) <;> (try simp only [decide_eq_true_eq, decide_eq_false_iff_not, Bool.not_eq_true', Bool.not_eq_false', beq_iff_eq, beq_eq_false_iff_ne, bne_iff_ne, bne_eq_false_iff_eq] at h) <;> (first | (exfalso; first | omega | exact h trivial) | (conv => whnf))) | (refine  CallX.mk _ _ (by exact isNaNS_pc _) ?_; conv => whnf) | fail)
      all_goals exact .mk ⟨by rw [hci, hh]; rfl, rfl⟩
    · exact .mk ⟨by rw [hci]; unfold hitS hitL; unfold cntS at hci; rw [hci, List.getElem?_eq_none (show l.length ≤ i by omega)]; rfl, rfl⟩
set_option maxRecDepth 100000 in
set_option maxHeartbeats 4000000 in
theorem cloneI_pc (l : List Int) (hl : l.length ≤ 1000000) : PCp 131 [.c (.lst 1 (l.map encI))] [] (.c (.row 0)) [.row 3 1 (l.map encI)] := by
  have hlm : (l.map encI).length = l.length := List.length_map ..
  refine fn_sound (mt := mts) tab_fits tab_mixed Tryz.func131 (by rfl) (by kernel_rfl) (by kernel_rfl) Tryz.results131 (Nat.le_of_ble_eq_true (by kernel_rfl)) ?_
  conv => whnf
  refine .mk (fun h => ?_) ?_
  · conv => whnf
    exact .own 3 1 rfl rfl (by rw [h]; rfl)
  · conv => whnf
    repeat' (first | (refine AppG.mk (by first | omega | (unfold roomOK; simp [cutRows]; done) | (unfold roomOK; simp [cutRows]; omega)) ?_; conv => whnf) | fail)
    exact .mk ⟨rfl, rfl⟩
set_option maxRecDepth 100000 in
set_option maxHeartbeats 4000000 in
theorem cloneS_pc (l : List ByteArray) (hl : l.length ≤ 1000000) : PCp 42 [.c (.lst 1 (l.map encS))] [] (.c (.row 0)) [.row 9 1 (l.map encS)] := by
  have hlm : (l.map encS).length = l.length := List.length_map ..
  refine fn_sound (mt := mts) tab_fits tab_mixed Tryz.func42 (by rfl) (by kernel_rfl) (by kernel_rfl) Tryz.results42 (Nat.le_of_ble_eq_true (by kernel_rfl)) ?_
  conv => whnf
  refine .mk (fun h => ?_) ?_
  · conv => whnf
    exact .own 9 1 rfl rfl (by rw [h]; rfl)
  · conv => whnf
    repeat' (first | (refine AppG.mk (by first | omega | (unfold roomOK; simp [cutRows]; done) | (unfold roomOK; simp [cutRows]; omega)) ?_; conv => whnf) | fail)
    exact .mk ⟨rfl, rfl⟩
end Go.Proofs.YtbdlhiogjnbhjaaGreat

namespace Go.Proofs.YtbdlhiogjnbhjaaGreat
set_option linter.unusedVariables false
set_option linter.unusedSimpArgs false
open Abs

end Go.Proofs.YtbdlhiogjnbhjaaGreat

namespace Go.Proofs.YtbdlhiogjnbhjaaGreat
set_option linter.unusedVariables false
set_option linter.unusedSimpArgs false
open Abs

set_option maxRecDepth 100000 in
set_option maxHeartbeats 4000000 in
theorem indexS_pc (v : ByteArray) (l : List ByteArray) (hl : l.length ≤ 1000000) : PCp 139 [.c (.lst 1 (l.map encS)), .c (.str v)] [] (.c (.int .i64 (idxP (fun x => decide (v = x)) l))) [] := by
  have hlm : (l.map encS).length = l.length := List.length_map ..
  refine fn_sound (mt := mts) tab_fits tab_mixed Tryz.func139 (by rfl) (by kernel_rfl) (by kernel_rfl) Tryz.results139 (Nat.le_of_ble_eq_true (by kernel_rfl)) ?_
  conv => whnf
  refine loop_for (l.length) [] [0, 1, 7, 8] (fun k (_ : Unit) => [(8, .c (.int .i64 (k : Int)))]) (fun k (_ : Unit) => []) (fun k (_ : Unit) => ∀ i (hi : i < l.length), i < k → (decide (v = l[i])) = false) (()) ?_
  conv => whnf
  refine ⟨(by first | rfl | (simp; done) | (simp; rfl)), ?_, ?_, ?_⟩
  · intro i hi h; omega
  · intro k _ hk hi
    conv => whnf
    repeat' (first | (refine CondG.mk (fun h => ?_) (fun h => ?_) <;> (try simp only [decide_eq_true_eq, decide_eq_false_iff_not, Bool.not_eq_true', Bool.not_eq_false', beq_iff_eq, beq_eq_false_iff_ne, bne_iff_ne, bne_eq_false_iff_eq] at h) <;> (first | (exfalso; first | omega | exact h trivial) | (conv => whnf))) | (refine idx_at _ (by with_reducible rfl) (by first | assumption | omega) ?_; conv => whnf) | fail)
    · exact fini (idxP_hit (p := fun x => decide (v = x)) hk (fun i hi' => hi i (by omega) hi') (by simpa [toList_eq'] using h)).symm
    · refine count_next () hk (by rw [wrap_succ hk (by omega)]; rfl) ?_
      exact all_succ' (p := fun x => decide (v = x)) hi (by simpa [toList_eq'] using h)
  · intro _ hi
    conv => whnf
    repeat' (first | (refine CondG.mk (fun h => ?_) (fun h => ?_) <;> (try simp only [decide_eq_true_eq, decide_eq_false_iff_not, Bool.not_eq_true', Bool.not_eq_false', beq_iff_eq, beq_eq_false_iff_ne] at h) <;> (first | (exfalso; first | omega | exact h trivial) | (conv => whnf))) | fail)
    exact fini (idxP_miss (p := fun x => decide (v = x)) (fun i h => hi i h h)).symm
set_option maxRecDepth 100000 in
set_option maxHeartbeats 4000000 in
theorem containsS_pc (v : ByteArray) (l : List ByteArray) (hl : l.length ≤ 1000000) : PCp 86 [.c (.lst 1 (l.map encS)), .c (.str v)] [] (.c (.bool (decide (v ∈ l)))) [] := by
  refine fn_sound (mt := mts) tab_fits tab_mixed Tryz.func86 (by rfl) (by kernel_rfl) (by kernel_rfl) Tryz.results86 (Nat.le_of_ble_eq_true (by kernel_rfl)) ?_
  conv => whnf
  repeat' (first | (refine  CallX.mk _ _ (by exact indexS_pc v l hl) ?_; conv => whnf) | fail)
  refine finb ?_
  rw [idxP_any, Bool.eq_iff_iff, List.any_eq_true, decide_eq_true_eq]
  exact ⟨fun ⟨x, hx, h⟩ => by simp at h; subst h; exact hx, fun h => ⟨v, h, by simp⟩⟩
theorem eq_drop {α : Type} [DecidableEq α] (a b : List α) (k : Nat) (h : k < a.length) (h2 : k < b.length) : decide (a.drop k = b.drop k) = (decide (a[k] = b[k]) && decide (a.drop (k + 1) = b.drop (k + 1))) := by
  rw [← Bool.decide_and, decide_eq_decide]
  rw [List.drop_eq_getElem_cons h, List.drop_eq_getElem_cons h2, List.cons.injEq]
set_option maxRecDepth 100000 in
set_option maxHeartbeats 4000000 in
theorem equalS_pc (l m : List ByteArray) (hl : l.length ≤ 1000000) : PCp 29 [.c (.lst 1 (l.map encS)), .c (.lst 1 (m.map encS))] [] (.c (.bool (decide (l = m)))) [] := by
  have hlm : (l.map encS).length = l.length := List.length_map ..
  have hmm : (m.map encS).length = m.length := List.length_map ..
  refine fn_sound (mt := mts) tab_fits tab_mixed Tryz.func29 (by rfl) (by kernel_rfl) (by kernel_rfl) Tryz.results29 (Nat.le_of_ble_eq_true (by kernel_rfl)) ?_
  conv => whnf
  repeat' (first | (refine CondG.mk (fun h => ?_) (fun h => ?_) <;> (try simp only [decide_eq_true_eq, decide_eq_false_iff_not, Bool.not_eq_true', Bool.not_eq_false', beq_iff_eq, beq_eq_false_iff_ne] at h) <;> (first | (exfalso; first | omega | exact h trivial) | (conv => whnf))) | fail)
  · refine finb ?_
    rw [eq_comm, decide_eq_false_iff_not]; intro e; subst e; simp at h
  have hlen : l.length = m.length := by simp at h; omega
  refine loop_for (l.length) [] [0, 1, 12, 13] (fun k (_ : Unit) => [(13, .c (.int .i64 (k : Int)))]) (fun k (_ : Unit) => []) (fun k (_ : Unit) => decide (l.drop k = m.drop k) = decide (l = m)) (()) ?_
  conv => whnf
  refine ⟨(by first | rfl | (simp; done) | (simp; rfl)), ?_, ?_, ?_⟩
  · rfl
  · intro k _ hk hi
    rw [eq_drop l m k hk (by omega)] at hi
    conv => whnf
    repeat' (first | (refine CondG.mk (fun h => ?_) (fun h => ?_) <;> (try simp only [decide_eq_true_eq, decide_eq_false_iff_not, Bool.not_eq_true', Bool.not_eq_false', beq_iff_eq, beq_eq_false_iff_ne, bne_iff_ne, bne_eq_false_iff_eq] at h) <;> (first | (exfalso; first | omega | exact h trivial) | (conv => whnf))) | (refine idx_at _ (by with_reducible rfl) (by first | assumption | omega) ?_; conv => whnf) | fail)
    · have h : l[k] ≠ m[k] := fun e => h (by rw [e])
      exact finb (by rw [← hi]; simp [h])
    · rw [toList_eq'] at h
      refine count_next () hk (by rw [wrap_succ hk (by omega)]; rfl) ?_
      rw [← hi]; simp [h]
  · intro _ hi
    conv => whnf
    repeat' (first | (refine CondG.mk (fun h => ?_) (fun h => ?_) <;> (try simp only [decide_eq_true_eq, decide_eq_false_iff_not, Bool.not_eq_true', Bool.not_eq_false', beq_iff_eq, beq_eq_false_iff_ne] at h) <;> (first | (exfalso; first | omega | exact h trivial) | (conv => whnf))) | fail)
    exact finb (by rw [← hi, List.drop_of_length_le (Nat.le_refl _), List.drop_of_length_le (by omega)]; rfl)
theorem squares_b {l : List Int} (h : ∀ x ∈ l, 0 ≤ x ∧ x ≤ 1000) (hl : l.length ≤ 1000000) {k : Nat} (hk : k < l.length) : IntKind.i64.wrap (sqV (l.take k) + IntKind.i64.wrap (l[k] * l[k])) = sqV (l.take (k + 1)) := by
  have h1 := h l[k] (List.getElem_mem hk)
  have h2 : 0 ≤ l[k] * l[k] := Int.mul_nonneg h1.1 h1.1
  have h3 := Int.mul_le_mul h1.2 h1.2 h1.1 (by omega : (0 : Int) ≤ 1000)
  have h4 := sq_in (l := l.take k) (fun x hx => h x (List.mem_of_mem_take hx))
  have h5 : (l.take k).length ≤ 1000000 := by rw [List.length_take]; omega
  rw [wrap_in (x := l[k] * l[k]) (by omega) (by omega), wrap_in (by omega) (by omega)]
  exact (sum_take (fun x => x * x) l k hk).symm
set_option maxRecDepth 100000 in
set_option maxHeartbeats 4000000 in
theorem dSquares_pc (l : List Int) (hb : ∀ x ∈ l, 0 ≤ x ∧ x ≤ 1000) (hl : l.length ≤ 1000000) : PCp 142 [.c (.lst 1 (l.map encI))] [] (.c (.int .i64 (sqV l))) [] := by
  have hlm : (l.map encI).length = l.length := List.length_map ..
  refine fn_sound (mt := mts) tab_fits tab_mixed Tryz.func142 (by rfl) (by kernel_rfl) (by kernel_rfl) Tryz.results142 (Nat.le_of_ble_eq_true (by kernel_rfl)) ?_
  conv => whnf
  refine loop_for (l.length) [] [3, 6, 7, 8] (fun k (_ : Unit) => [(3, .c (.int .i64 (sqV (l.take k)))), (8, .c (.int .i64 (k : Int)))]) (fun k (_ : Unit) => []) (fun k (_ : Unit) => True) (()) ?_
  conv => whnf
  refine ⟨(by first | rfl | (simp; done) | (simp; rfl)), (by trivial), ?_, ?_⟩
  · intro k _ hk _
    conv => whnf
    repeat' (first | (refine CondG.mk (fun h => ?_) (fun h => ?_) <;> (try simp only [decide_eq_true_eq, decide_eq_false_iff_not, Bool.not_eq_true', Bool.not_eq_false', beq_iff_eq, beq_eq_false_iff_ne, bne_iff_ne, bne_eq_false_iff_eq] at h) <;> (first | (exfalso; first | omega | exact h trivial) | (conv => whnf))) | (refine idx_at _ (by with_reducible rfl) (by first | assumption | omega) ?_; conv => whnf) | fail)
    exact count_next () hk (by rw [wrap_succ hk (by omega), squares_b hb hl hk]; rfl) trivial
  · intro _ _
    conv => whnf
    repeat' (first | (refine CondG.mk (fun h => ?_) (fun h => ?_) <;> (try simp only [decide_eq_true_eq, decide_eq_false_iff_not, Bool.not_eq_true', Bool.not_eq_false', beq_iff_eq, beq_eq_false_iff_ne, bne_iff_ne, bne_eq_false_iff_eq] at h) <;> (first | (exfalso; first | omega | exact h trivial) | (conv => whnf))) | fail)
    exact fini (by rw [List.take_length])
end Go.Proofs.YtbdlhiogjnbhjaaGreat

namespace Go.Proofs.YtbdlhiogjnbhjaaGreat
set_option linter.unusedVariables false
set_option linter.unusedSimpArgs false
open Abs

def insDown {α : Type} (c : α → α → Int) (a : Nat) : Nat → List α → List α
  | 0, l => l
  | j + 1, l => if a < j + 1 then (match l[j + 1]?, l[j]? with | some x, some y => if c x y < 0 then insDown c a j ((l.set (j + 1) y).set j x) else l | _, _ => l) else l
def insTo {α : Type} (c : α → α → Int) (a : Nat) : Nat → List α → List α
  | 0, l => l
  | m + 1, l => insDown c a (a + 1 + m) (insTo c a m l)
def insSort {α : Type} (c : α → α → Int) (l : List α) : List α := insTo c 0 (l.length - 1) l
theorem insDown_len {α : Type} (c : α → α → Int) (a : Nat) : ∀ (j : Nat) (l : List α), (insDown c a j l).length = l.length
  | 0, l => rfl
  | j + 1, l => by
    unfold insDown
    split
    · split
      · split
        · rw [insDown_len]; simp
        · rfl
      · rfl
    · rfl
theorem insTo_len {α : Type} (c : α → α → Int) (a : Nat) : ∀ (m : Nat) (l : List α), (insTo c a m l).length = l.length
  | 0, l => rfl
  | m + 1, l => by rw [insTo, insDown_len, insTo_len]
theorem insSort_len {α : Type} (c : α → α → Int) (l : List α) : (insSort c l).length = l.length := insTo_len ..
theorem swap_perm {α : Type} {l : List α} {j : Nat} {x y : α} (hx : l[j + 1]? = some x) (hy : l[j]? = some y) : ((l.set (j + 1) y).set j x).Perm l := by
  induction l generalizing j with
  | nil => simp at hx
  | cons a r ih =>
    cases j with
    | zero =>
      cases r with
      | nil => simp at hx
      | cons b r => simp at hx hy; subst hx hy; exact List.Perm.swap _ _ _
    | succ j => exact List.Perm.cons a (ih (by simpa using hx) (by simpa using hy))
theorem insDown_perm {α : Type} (c : α → α → Int) (a : Nat) : ∀ (j : Nat) (l : List α), (insDown c a j l).Perm l
  | 0, l => List.Perm.refl _
  | j + 1, l => by
    unfold insDown
    split
    · split
      · rename_i x y hx hy
        split
        · exact (insDown_perm c a j _).trans (swap_perm hx hy)
        · exact List.Perm.refl _
      · exact List.Perm.refl _
    · exact List.Perm.refl _
theorem insTo_perm {α : Type} (c : α → α → Int) (a : Nat) : ∀ (m : Nat) (l : List α), (insTo c a m l).Perm l
  | 0, l => List.Perm.refl _
  | m + 1, l => (insDown_perm c a _ _).trans (insTo_perm c a m l)
theorem insSort_perm {α : Type} (c : α → α → Int) (l : List α) : (insSort c l).Perm l := insTo_perm ..
theorem insDown_step {α : Type} {c : α → α → Int} {a j : Nat} {l : List α} (h : a < j + 1) (h1 : j + 1 < l.length) (hc : c l[j + 1] (l[j]'(by omega)) < 0) : insDown c a (j + 1) l = insDown c a j ((l.set (j + 1) (l[j]'(by omega))).set j l[j + 1]) := by
  rw [insDown, if_pos h, List.getElem?_eq_getElem h1, List.getElem?_eq_getElem (show j < l.length by omega)]
  simp only [if_pos hc]
theorem insDown_stop {α : Type} {c : α → α → Int} {a j : Nat} {l : List α} (h1 : j + 1 < l.length) (hc : ¬ c l[j + 1] (l[j]'(by omega)) < 0) : insDown c a (j + 1) l = l := by
  rw [insDown, List.getElem?_eq_getElem h1, List.getElem?_eq_getElem (show j < l.length by omega)]
  simp only [if_neg hc]
  split <;> rfl
theorem toN {n : Nat} : ((n : Int)).toNat = n := Int.toNat_natCast n
end Go.Proofs.YtbdlhiogjnbhjaaGreat

namespace Go.Proofs.YtbdlhiogjnbhjaaGreat
set_option linter.unusedVariables false
set_option linter.unusedSimpArgs false
open Abs

def InsInv {α : Type} (c : α → α → Int) (m j : Nat) (l : List α) : Prop :=
  (∀ i k x y, i < k → k ≤ m → i ≠ j → k ≠ j → l[i]? = some x → l[k]? = some y → ¬ c y x < 0) ∧ ∀ k x y, j < k → k ≤ m → l[j]? = some x → l[k]? = some y → ¬ c y x < 0
def SrtTo {α : Type} (c : α → α → Int) (n : Nat) (l : List α) : Prop := ∀ i k x y, i < k → k < n → l[i]? = some x → l[k]? = some y → ¬ c y x < 0
theorem insDown_srt {α : Type} {c : α → α → Int} (hc : SWOc c) (m : Nat) : ∀ (j : Nat) (l : List α), j ≤ m → m < l.length → InsInv c m j l → SrtTo c (m + 1) (insDown c 0 j l)
  | 0, l, _, hm, ⟨h1, h2⟩ => by
    intro i k x y hik hk hx hy
    rw [insDown] at hx hy
    by_cases e : i = 0
    · subst e; exact h2 k x y hik (by omega) hx hy
    · exact h1 i k x y hik (by omega) e (by omega) hx hy
  | j + 1, l, hj, hm, ⟨h1, h2⟩ => by
    by_cases hlt : c (l[j + 1]'(by omega)) (l[j]'(by omega)) < 0
    · rw [insDown_step (by omega) (by omega) hlt]
      refine insDown_srt hc m j _ (by omega) (by simpa using hm) ⟨?_, ?_⟩
      · intro i k x y hik hk hij hkj hx hy
        rw [List.getElem?_set_ne (Ne.symm hij)] at hx
        rw [List.getElem?_set_ne (Ne.symm hkj)] at hy
        by_cases e1 : k = j + 1
        · subst e1
          rw [List.getElem?_set_ne (by omega)] at hx
          rw [List.getElem?_set_self (by omega)] at hy
          cases hy
          exact h1 i j x _ (by omega) (by omega) (by omega) (by omega) hx (List.getElem?_eq_getElem (by omega))
        · by_cases e2 : i = j + 1
          · subst e2
            rw [List.getElem?_set_self (by omega)] at hx
            rw [List.getElem?_set_ne (by omega)] at hy
            cases hx
            exact h1 j k _ y (by omega) hk (by omega) e1 (List.getElem?_eq_getElem (by omega)) hy
          · rw [List.getElem?_set_ne (by omega)] at hx hy
            exact h1 i k x y hik hk e2 e1 hx hy
      · intro k x y hjk hk hx hy
        rw [List.getElem?_set_self (by simp; omega)] at hx
        cases hx
        rw [List.getElem?_set_ne (by omega)] at hy
        by_cases e1 : k = j + 1
        · subst e1
          rw [List.getElem?_set_self (by omega)] at hy
          cases hy
          intro h6
          exact hc.irrefl _ (hc.trans _ _ _ hlt h6)
        · rw [List.getElem?_set_ne (by omega)] at hy
          exact h2 k _ y (by omega) hk (List.getElem?_eq_getElem (by omega)) hy
    · rw [insDown_stop (by omega) hlt]
      intro i k x y hik hk hx hy
      by_cases e1 : k = j + 1
      · subst e1
        rw [List.getElem?_eq_getElem (by omega)] at hy
        cases hy
        by_cases e2 : i = j
        · subst e2
          rw [List.getElem?_eq_getElem (by omega)] at hx
          cases hx
          exact hlt
        · exact hc.ntrans _ _ _ hlt (h1 i j x _ (by omega) (by omega) (by omega) (by omega) hx (List.getElem?_eq_getElem (by omega)))
      · by_cases e2 : i = j + 1
        · subst e2; exact h2 k x y hik (by omega) hx hy
        · exact h1 i k x y hik (by omega) e2 e1 hx hy
theorem insTo_srt {α : Type} {c : α → α → Int} (hc : SWOc c) (l : List α) : ∀ m, m < l.length → SrtTo c (m + 1) (insTo c 0 m l)
  | 0, _ => fun i k x y h1 h2 => by omega
  | m + 1, h => by
    have ih := insTo_srt hc l m (by omega)
    rw [insTo, show 0 + 1 + m = m + 1 by omega]
    refine insDown_srt hc (m + 1) (m + 1) _ (Nat.le_refl _) (by rw [insTo_len]; exact h) ⟨?_, ?_⟩
    · intro i k x y hik hk _ hk2 hx hy
      exact ih i k x y hik (by omega) hx hy
    · intro k x y h1 h2; omega
theorem insSort_srt {α : Type} {c : α → α → Int} (hc : SWOc c) (l : List α) : (insSort c l).Pairwise fun x y => ¬ c y x < 0 := by
  unfold insSort
  cases h : l with
  | nil => exact List.Pairwise.nil
  | cons a r =>
    rw [← h]
    have h0 : 0 < l.length := by rw [h]; simp
    have := insTo_srt hc l (l.length - 1) (by omega)
    rw [List.pairwise_iff_getElem]
    intro i k hi hk hik
    have hlen := insTo_len c 0 (l.length - 1) l
    exact this i k _ _ hik (by omega) (List.getElem?_eq_getElem hi) (List.getElem?_eq_getElem hk)
theorem swo_key {α : Type} (key : α → ByteArray) : SWOc fun a b : α => cmpS (key a) (key b) where
  irrefl x := by rw [cmp_lt, ltB_irr]; simp
  trans x y z h1 h2 := cmp_lt.2 (ltB_trans (cmp_lt.1 h1) (cmp_lt.1 h2))
  ntrans x y z h1 h2 := by
    rw [cmp_lt] at h1 h2 ⊢
    intro h3
    rcases ltB_tri (key x) (key y) with h | h | h
    · exact h1 h
    · rw [h] at h3; exact h2 h3
    · exact h2 (ltB_trans h h3)
theorem rise_of {α : Type} {key : α → ByteArray} {l : List α} (h : l.Pairwise fun x y => ¬ cmpS (key y) (key x) < 0) (hn : (l.map key).Nodup) : Rise key l := by
  unfold Rise
  have hn' : l.Pairwise fun x y => key x ≠ key y := List.pairwise_map.1 hn
  refine (h.and hn').imp ?_
  rintro x y ⟨h1, h2⟩
  rw [cmp_lt] at h1
  rcases ltB_tri (key x) (key y) with h | h | h
  · exact h
  · exact (h2 h).elim
  · exact (h1 h).elim
theorem rise_one {α : Type} {key : α → ByteArray} : ∀ {a b : List α}, a.Perm b → Rise key a → Rise key b → a = b
  | [], b, hp, _, _ => by rw [List.nil_perm.1 hp]
  | x :: r, [], hp, _, _ => by have := hp.length_eq; simp at this
  | x :: r, y :: t, hp, h1, h2 => by
    obtain ⟨a1, a2⟩ := List.pairwise_cons.1 h1
    obtain ⟨b1, b2⟩ := List.pairwise_cons.1 h2
    have hxy : x = y := by
      rcases List.mem_cons.1 (hp.mem_iff.1 (show x ∈ x :: r by simp)) with h | h
      · exact h
      · rcases List.mem_cons.1 (hp.mem_iff.2 (show y ∈ y :: t by simp)) with h' | h'
        · exact h'.symm
        · have := ltB_asym (a1 y h'); rw [b1 x h] at this; cases this
    subst hxy
    rw [rise_one (List.Perm.cons_inv hp) a2 b2]
end Go.Proofs.YtbdlhiogjnbhjaaGreat

namespace Go.Proofs.YtbdlhiogjnbhjaaGreat
set_option linter.unusedVariables false
set_option linter.unusedSimpArgs false
open Go.Shelf Go.Sort Go.RowKit
namespace Abs
theorem bytesLess_dec : ∀ (x y : List UInt8), Op.bytesLess x y = decide (x < y)
  | [], [] => by simp [Op.bytesLess]
  | _ :: _, [] => by simp [Op.bytesLess]
  | [], _ :: _ => by simp [Op.bytesLess]
  | a :: x, b :: y => by
    rw [Op.bytesLess, bytesLess_dec x y]
    simp only [List.cons_lt_cons_iff]
    by_cases h1 : a < b <;> by_cases h2 : a = b <;> by_cases h3 : x < y <;> simp [h1, h2, h3]
theorem le_ltL {x y : List UInt8} : decide (x ≤ y) = !Op.bytesLess y x := by
  rw [bytesLess_dec, Bool.eq_iff_iff]
  simp only [decide_eq_true_eq, Bool.not_eq_true', decide_eq_false_iff_not]
  exact Iff.rfl
def unS (x : List UInt8) : ByteArray := ⟨x.toArray⟩
theorem unS_list (x : List UInt8) : (unS x).toList = x := by rw [ByteArray.toList_eq]; rfl
theorem unS_data (b : ByteArray) : unS b.data.toList = b := by cases b; rfl
theorem mergeS_eq (l : List ByteArray) : (((l.map fun b => b.data.toList).mergeSort fun x y => decide (x ≤ y)).map unS) = insSort cmpS l := by
  have hp : (((l.map fun b => b.data.toList).mergeSort fun x y => decide (x ≤ y)).map unS).Perm l := by
    have h1 := (List.mergeSort_perm (l.map fun b => b.data.toList) (fun x y => decide (x ≤ y))).map unS
    rw [List.map_map] at h1
    have h2 : l.map (unS ∘ fun b => b.data.toList) = l := by
      conv => rhs; rw [← List.map_id l]
      apply List.map_congr_left
      intro x _
      exact unS_data x
    rwa [h2] at h1
  have hs := List.pairwise_mergeSort (le := fun x y : List UInt8 => decide (x ≤ y)) (by
    intro a b c h1 h2
    rw [le_ltL] at *
    simp only [Bool.not_eq_true'] at *
    rcases ltL_tri c a with h3 | h3 | h3
    · rcases ltL_tri b c with h4 | h4 | h4
      · rw [ltL_trans h4 h3] at h1; cases h1
      · subst h4; rw [h3] at h1; cases h1
      · rw [h4] at h2; cases h2
    · subst h3; exact ltL_irr _
    · cases h5 : Op.bytesLess c a with
      | false => rfl
      | true => have := ltL_trans h3 h5; rw [ltL_irr] at this; cases this) (by
    intro a b
    rw [le_ltL, le_ltL]
    rcases ltL_tri a b with h3 | h3 | h3
    · cases h5 : Op.bytesLess b a with
      | false => rfl
      | true => have := ltL_trans h3 h5; rw [ltL_irr] at this; cases this
    · subst h3; rw [ltL_irr]; rfl
    · cases h5 : Op.bytesLess a b with
      | false => simp
      | true => have := ltL_trans h3 h5; rw [ltL_irr] at this; cases this) (l.map fun b => b.data.toList)
  refine sorted_one (c := cmpS) (swo_key id) ?_ (hp.trans (insSort_perm cmpS l).symm) ?_ (insSort_srt (swo_key id) l)
  · intro x y h1 h2
    rw [cmp_lt] at h1 h2
    rcases ltB_tri x y with h | h | h
    · exact (h1 h).elim
    · exact h
    · exact (h2 h).elim
  · rw [List.pairwise_map]
    refine hs.imp ?_
    intro x y h
    rw [le_ltL] at h
    rw [cmp_lt]
    unfold ltB
    rw [unS_list, unS_list]
    simpa using h
variable {P : Program} {ρ : Ren}
theorem strs_flat (l : List ByteArray) : (l.map encS).flatten = l.map V.str := by
  induction l with
  | nil => rfl
  | cons a r ih => rw [List.map_cons, List.flatten_cons, ih]; rfl
theorem sortS_any (L : Lays.n190 P ρ) (hb : ∃ fn, P.funcs[ρ.f 190]? = some fn ∧ (fn.name == "runtime.NumGoroutine") = false ∧ fn.body.isNone = false) (e : Nat) (l : List ByteArray) (hl : l.length < 1000000000000) :
    PCs P (ρ.f 190) [.c (.row 0)] [.row e 1 (l.map encS)] (.tup []) [.row e 1 ((insSort cmpS l).map encS)] := by
  refine ⟨hb, fun F φ w cargs hargs hobj hφ => ?_⟩
  obtain ⟨c0, cs1, e1, r0, hargs⟩ := hargs.cons_inv
  have e3 := hargs.nil_inv
  subst e3
  have hφ0 : φ 0 = some c0 := by
    cases r0 with | c h => cases h with
      | tree h => cases h
      | row _ _ h => exact h
  have hca : cargs = #[c0] := Array.ext' e1
  subst hca
  have hob : nth [Ob.row e 1 (l.map encS)] 0 = some (.row e 1 (l.map encS)) := rfl
  have ho := hobj.objs 0 _ hob
  have zero : ∀ (p : Option Addr) (cap : Nat), l = [] → c0 = .slice p 0 cap → Calls P (ρ.f 190) #[c0] w fun ee w' => ∃ cc F' φ' r objs', (one (.tup []) [.row e 1 ((insSort cmpS l).map encS)]) r objs' ∧ ee = .returned cc ∧ RS F' φ' w' cc r ∧ Nx F φ w (nth [Ob.row e 1 (l.map encS)]) (fun l_1 => [Ob.row e 1 (l.map encS)].length ≤ l_1) (chOf 0 objs') F' φ' w' := by
    intro p cap h0 hc0
    subst h0 hc0
    refine (Any.slices_Sort_string_none L p cap w).mono ?_
    rintro ee w' ⟨rfl, rfl⟩
    exact ⟨.tuple #[], F, φ, .tup [], [.row e 1 []], ⟨rfl, rfl⟩, rfl, .tup _ _ rfl (fun j c x h => by simp at h), Nx.same hobj⟩
  rcases ho with ⟨cv, xs, h1, h2, ⟨⟨hxl, hown⟩, hroomy⟩, h4, h5⟩ | ⟨h0, p, h1⟩
  · rw [hφ0] at h1; cases h1
    rcases hown with ⟨hv, hn0⟩ | ⟨gb, cap, cur, hv, _, hh, hcap, hmx, hcs, htk⟩
    · exact zero none 0 (by simpa using hn0) hv
    · rcases Nat.eq_zero_or_pos l.length with hn | hn
      · exact zero (some ⟨gb, 0, none⟩) cap (List.length_eq_zero_iff.1 hn) (by rw [hv]; simp [hn])
      · subst hv
        simp only [List.length_map, Nat.mul_one] at *
        have hFb : ¬ F gb := h2 gb (by cases cap with | zero => omega | succ => rfl)
        have hxs : xs = l.map fun b => Value.string b := by
          rw [strs_flat] at h4
          apply List.ext_getElem?
          intro j
          by_cases hj : j < l.length
          · have q1 : xs[j]? = some xs[j] := List.getElem?_eq_getElem (by rw [hxl]; exact hj)
            have q2 : (l.map V.str)[j]? = some (.str l[j]) := by simp [hj]
            have q3 := h4.2 j _ _ q1 q2
            rw [q1]
            have q4 : xs[j] = Value.string l[j] := by
              generalize xs[j] = z at q3
              cases q3; rfl
            rw [q4]; simp [hj]
          · rw [List.getElem?_eq_none (by omega), List.getElem?_eq_none (by simp; omega)]
        have hcell : ∀ j (hj : j < l.length), cur[j]? = some (Value.string l[j]) := by
          intro j hj
          have q1 : (cur.toList.take l.length)[j]? = xs[j]? := by rw [htk]
          rw [List.getElem?_take, if_pos hj, Array.getElem?_toList] at q1
          rw [q1, hxs]; simp [hj]
        let ss : List (List UInt8) := l.map fun b => b.data.toList
        have hss : ss.length = l.length := by simp [ss]
        have hH : Holds encStr w gb 0 ss.toArray := by
          intro j hj
          have hj' : j < l.length := by simpa [ss] using hj
          have hg : (ss.toArray)[j]! = l[j].data.toList := by
            rw [getElem!_pos _ j hj]; simp [ss]
          refine ⟨?_, ?_⟩
          · rw [hg]
            simp only [World.cell?, hh, Nat.zero_add, Option.isSome_none, Bool.false_eq_true, if_false, hcell j hj', encStr]
          · simp [World.frozen?, hh]
        have hblk : gb < w.heap.size := lt_heap hh
        have hS := Any.slices_Sort_string L gb 0 cap ss w hH hblk (by rw [hss]; omega)
        rw [hss] at hS
        refine hS.mono ?_
        rintro ee w' ⟨rfl, m, os, rfl⟩
        have hS2 := mergeS_eq l
        generalize hM : (ss.mergeSort fun x y => decide (x ≤ y)) = M at *
        have hM' : M.map unS = insSort cmpS l := by rw [← hS2]
        have hMl : M.length = l.length := by rw [← hM, List.length_mergeSort, hss]
        have hheap : ∀ b, b < w.heap.size → (grow (putRow encStr (Sort.ahead w m) gb 0 M.toArray) os).heap[b]? = if b = gb then some (.cells (putCells encStr 0 M.toArray cur) e (0, 0)) else w.heap[b]? := by
          intro b hb
          unfold grow putRow mapBlock Sort.ahead
          simp only
          rw [Array.getElem?_append_left (by simpa using hb), Array.getElem?_modify]
          by_cases e4 : gb = b
          · subst e4; rw [if_pos rfl, if_pos rfl, hh]; rfl
          · rw [if_neg e4, if_neg (fun h => e4 h.symm)]
        have hsize : w.heap.size ≤ (grow (putRow encStr (Sort.ahead w m) gb 0 M.toArray) os).heap.size := by
          unfold grow putRow mapBlock Sort.ahead
          simp
        have hil := insSort_len cmpS l
        have hro : RO F φ (grow (putRow encStr (Sort.ahead w m) gb 0 M.toArray) os) 0 (.row e 1 ((insSort cmpS l).map encS)) := by
          refine RO.mkrow (xs := (insSort cmpS l).map Value.string) hφ0 h2 ⟨?_, .inr ⟨gb, cap, putCells encStr 0 M.toArray cur, ?_, Nat.zero_le _, ?_, ?_, hmx, ?_, ?_⟩⟩ ?_ ?_
          · simp
          · simp [hil]
          · rw [hheap gb hblk, if_pos rfl]
          · simpa [hil] using hcap
          · simp [putCells, hcs]
          · apply List.ext_getElem?
            intro j
            rw [List.getElem?_take]
            by_cases hj : j < l.length
            · have hjc : j < cur.size := by rw [hcs]; omega
              rw [if_pos (by simpa [hil] using hj)]
              have hMj : j < M.length := by omega
              have hIj : j < (insSort cmpS l).length := by omega
              have q1 : (insSort cmpS l)[j] = unS M[j] := by simp [← hM']
              simp only [putCells, Array.getElem?_toList, Array.getElem?_mapIdx, Array.getElem?_eq_getElem hjc, Option.map_some, Nat.zero_le, true_and, Nat.zero_add, Nat.sub_zero, List.getElem?_map, List.getElem?_eq_getElem hIj]
              rw [if_pos (by simpa using hMj), q1, getElem!_pos _ _ (by simpa using hMj)]
              simp [encStr, unS]
            · rw [if_neg (by simpa [hil] using hj), List.getElem?_eq_none (by simp [hil]; omega)]
          · rw [strs_flat]
            refine ⟨by simp, fun j x y hx hy => ?_⟩
            rw [List.getElem?_map] at hx hy
            cases hz : (insSort cmpS l)[j]? with
            | none => rw [hz] at hx; cases hx
            | some z => rw [hz] at hx hy; cases hx; cases hy; exact .str z
          · intro r hr; obtain ⟨x, _, rfl⟩ := List.mem_map.1 hr; rfl
        have hone1 : ∀ l2 o, chGet (chOf 0 [Ob.row e 1 ((insSort cmpS l).map encS)]) l2 = some o → l2 = 0 ∧ o = .row e 1 ((insSort cmpS l).map encS) := by
          intro l2 o h
          rw [chGet_chOf] at h
          simp only [Nat.zero_le, if_true, Nat.sub_zero] at h
          cases l2 with
          | zero => simp only [List.getElem?_cons_zero, Option.some.injEq] at h; exact ⟨rfl, h.symm⟩
          | succ n => simp at h
        have hblk0 : blkOf φ 0 = some gb := by
          unfold blkOf; rw [hφ0]; cases cap with | zero => omega | succ => rfl
        refine ⟨.tuple #[], F, φ, .tup [], [.row e 1 ((insSort cmpS l).map encS)], ⟨rfl, rfl⟩, rfl, .tup _ _ rfl (fun j c x h => by simp at h), ?_⟩
        refine ⟨fun _ h => h, fun _ _ h => h, fun _ _ h => .inl h, rfl, rfl, rfl, fun _ => Nat.le_add_right _ _, hsize, ?_, fun b h => .inl h, ?_, ?_, ?_⟩
        · intro b hb hne
          rw [hheap b hb] at hne
          by_cases e4 : b = gb
          · subst e4; exact ⟨0, _, hob, rfl, .inl hblk0, rfl⟩
          · rw [if_neg e4] at hne; exact (hne rfl).elim
        · intro l2 o h
          obtain ⟨rfl, rfl⟩ := hone1 l2 o h
          exact hro
        · intro l2 o b h h6 h7
          obtain ⟨rfl, rfl⟩ := hone1 l2 o h
          exact .inr ⟨0, _, hob, rfl, .inl h7.base, rfl⟩
        · intro l2 l3 o o' b h h6 _ _ _ _
          rw [(hone1 l2 o h).1, (hone1 l3 o' h6).1]
  · exact zero _ 0 (by simpa using h0) (by rw [hφ0] at h1; cases h1; rfl)
end Abs
theorem sortG_pc (l : List ByteArray) (hl : l.length < 1000000000000) : PCp 22 [.c (.row 0)] [.row 9 1 (l.map encS)] (.tup []) [.row 9 1 ((insSort cmpS l).map encS)] :=
  Abs.sortS_any laySortS ⟨_, Tryz.func22, by kernel_rfl, by kernel_rfl⟩ _ l hl
end Go.Proofs.YtbdlhiogjnbhjaaGreat

namespace Go.Proofs.YtbdlhiogjnbhjaaGreat
set_option linter.unusedVariables false
set_option linter.unusedSimpArgs false
open Abs

structure Sv where
  key : ByteArray
  els : List ByteArray
  cust : Int
def encSv (x : Sv) : List V := [.str x.key, .lst 1 (x.els.map encS), .int .i64 x.cust]
def elErr (first : Bool) (before k : ByteArray) : Int := if !keyB k then 5 else if !first && leB k before then 7 else 0
def elsErr (l : List ByteArray) : Int := seqErr elErr id true ⟨#[]⟩ l
def elsFault (l : List ByteArray) : Int := if 100 < l.length then 2 else elsErr l
def svErr (first : Bool) (before : ByteArray) (x : Sv) : Int :=
  if !keyB x.key then 5 else if !first && leB x.key before then 7 else if x.els.length = 0 then 8 else if elsFault x.els ≠ 0 then elsFault x.els else if x.cust < 1 ∨ 100000 < x.cust then 1 else 0
def svFault (l : List Sv) : Int := if 500 < l.length then 2 else seqErr svErr Sv.key true ⟨#[]⟩ l
def svAt (s : List Sv) (k : ByteArray) : Option Sv := s.find? fun x => decide (x.key = k)
def sv0 : Sv := ⟨⟨#[]⟩, [], 0⟩
def svG (s : List Sv) (k : ByteArray) : Sv := (svAt s k).getD sv0
def hasSv (s : List Sv) (k : ByteArray) : Bool := (svAt s k).isSome
def stErr (s : List Sv) (l : List ByteArray) : Int := if 500 < l.length then 2 else seqErr (keyErr (hasSv s)) id true ⟨#[]⟩ l
def seenErr (s : List Sv) (down up : List ByteArray) : Int :=
  if svFault s ≠ 0 then svFault s else if stErr s down ≠ 0 then stErr s down else if stErr s up ≠ 0 then stErr s up else if down.any (fun k => decide (k ∈ up)) then 13 else 0
structure SvX (x : Sv) : Prop where
  key : keyB x.key = true
  rise : Rise id x.els
  pos : 1 ≤ x.els.length
  len : x.els.length ≤ 100
  cust : 1 ≤ x.cust ∧ x.cust ≤ 100000
  els : ∀ k ∈ x.els, keyB k = true
structure SvOk (s : List Sv) : Prop where
  rise : Rise Sv.key s
  len : s.length ≤ 500
  each : ∀ x ∈ s, SvX x
theorem elErr_ok {f : Bool} {b k : ByteArray} (h : elErr f b k = 0) : keyB k = true ∧ (f = false → ltB b k = true) := by
  unfold elErr at h
  split at h
  · omega
  · split at h
    · omega
    · rename_i h1 h2
      refine ⟨by simpa using h1, fun hf => ?_⟩
      subst hf
      simp at h2
      exact leB_not.1 h2
theorem elsErr_ok {l : List ByteArray} (h : elsErr l = 0) : Rise id l ∧ ∀ k ∈ l, keyB k = true := by
  refine ⟨seqErr_rise (fun b k hk => (elErr_ok hk).2 rfl) h, fun k hk => ?_⟩
  obtain ⟨f, b, h1⟩ := seqErr_all h k hk
  exact (elErr_ok h1).1
theorem elsFault_ok {l : List ByteArray} (h : elsFault l = 0) : Rise id l ∧ l.length ≤ 100 ∧ ∀ k ∈ l, keyB k = true := by
  unfold elsFault at h
  split at h
  · omega
  · exact ⟨(elsErr_ok h).1, by omega, (elsErr_ok h).2⟩
theorem svErr_ok {f : Bool} {b : ByteArray} {x : Sv} (h : svErr f b x = 0) : SvX x ∧ (f = false → ltB b x.key = true) := by
  unfold svErr at h
  split at h
  · omega
  · split at h
    · omega
    · split at h
      · omega
      · split at h
        · omega
        · split at h
          · omega
          · rename_i h1 h2 h3 h4 h5
            obtain ⟨e1, e2, e3⟩ := elsFault_ok (show elsFault x.els = 0 by omega)
            refine ⟨⟨by simpa using h1, e1, by omega, e2, by omega, e3⟩, fun hf => ?_⟩
            subst hf
            simp at h2
            exact leB_not.1 h2
theorem svFault_ok {s : List Sv} (h : svFault s = 0) : SvOk s := by
  unfold svFault at h
  split at h
  · omega
  · refine ⟨seqErr_rise (fun b x hx => (svErr_ok hx).2 rfl) h, by omega, fun x hx => ?_⟩
    obtain ⟨f, b, h1⟩ := seqErr_all h x hx
    exact (svErr_ok h1).1
theorem hasSv_iff {s : List Sv} {k : ByteArray} : hasSv s k = true ↔ ∃ x ∈ s, x.key = k := by
  unfold hasSv svAt
  rw [List.find?_isSome]; simp
theorem svAt_mem {s : List Sv} (h : Rise Sv.key s) {x : Sv} (hx : x ∈ s) : svAt s x.key = some x := rise_find h hx
theorem svG_mem {s : List Sv} (h : Rise Sv.key s) {x : Sv} (hx : x ∈ s) : svG s x.key = x := by unfold svG; rw [svAt_mem h hx]; rfl
structure StOkL (s : List Sv) (l : List ByteArray) : Prop where
  len : l.length ≤ 500
  rise : Rise id l
  has : ∀ k ∈ l, hasSv s k = true
theorem stErr_ok {s : List Sv} {l : List ByteArray} (h : stErr s l = 0) : StOkL s l := by
  unfold stErr at h
  split at h
  · omega
  · refine ⟨by omega, seqErr_rise (fun b k hk => (keyErr_ok hk).2 rfl) h, fun k hk => ?_⟩
    obtain ⟨f, b, h1⟩ := seqErr_all h k hk
    exact (keyErr_ok h1).1
end Go.Proofs.YtbdlhiogjnbhjaaGreat

namespace Go.Proofs.YtbdlhiogjnbhjaaGreat
set_option linter.unusedVariables false
set_option linter.unusedSimpArgs false
open Abs

theorem idxP_or {α : Type} (p : α → Bool) (l : List α) : (idxP p l = -1 ∧ ∀ x ∈ l, p x = false) ∨ ∃ i0, ∃ h0 : i0 < l.length, idxP p l = ((i0 : Nat) : Int) ∧ p l[i0] = true ∧ ∀ i (hi : i < l.length), i < i0 → p l[i] = false := by
  unfold idxP
  by_cases h : l.any p = true
  · right
    have hlt := List.findIdx_lt_length_of_exists (p := p) (xs := l) (by simpa [List.any_eq_true] using h)
    refine ⟨l.findIdx p, hlt, by rw [if_pos h], List.findIdx_getElem (w := hlt), ?_⟩
    intro i hi hlt
    simpa using List.not_of_lt_findIdx hlt
  · left
    refine ⟨by rw [if_neg h], fun x hx => ?_⟩
    cases hp : p x with
    | false => rfl
    | true => exact absurd (List.any_eq_true.2 ⟨x, hx, hp⟩) h
theorem map_erase {α β : Type} (f : α → β) : ∀ (l : List α) (i : Nat), (l.eraseIdx i).map f = (l.map f).eraseIdx i
  | [], _ => rfl
  | _ :: _, 0 => rfl
  | a :: r, i + 1 => by simp [map_erase f r i]
theorem del_rows (L : List (List V)) (i : Nat) (hi : i < L.length) (R : List (List V)) (a b d : Nat) (ha : a = i) (hb : b = i + (L.length - (i + 1))) (hd : d = i + (L.length - (i + 1))) : (overR (overR L (L.drop (i + 1)) a) R b).take d = L.eraseIdx i := by
  subst ha hb hd
  have hX : (overR L (L.drop (a + 1)) a).take (a + (L.length - (a + 1))) = L.eraseIdx a := by
    unfold overR
    rw [List.eraseIdx_eq_take_drop_succ, List.take_append_of_le_length (by simp; omega), List.take_of_length_le (by simp; omega)]
  rw [← hX]
  conv => lhs; unfold overR
  rw [List.append_assoc, List.take_append_of_le_length (by simp [overR]; omega), List.take_take, Nat.min_self]
  rfl
theorem hitG_eq {l : List ByteArray} (h : Rise id l) (t : ByteArray) : hitS t l = decide (t ∈ l) := by
  have hc : ∀ x : ByteArray, ((if ltB x t then (-1 : Int) else if x.toList = t.toList then 0 else 1) < 0 ↔ ltB (id x) t = true) ∧ ((if ltB x t then (-1 : Int) else if x.toList = t.toList then 0 else 1) = 0 ↔ id x = t) := by
    intro x
    by_cases h1 : ltB x t = true
    · simp [h1, ltB_ne h1]
    · by_cases h2 : x = t
      · subst h2; simp [h1]
      · simp [h1, h2, toList_eq']
  have hf := find_rise hc h
  unfold hitS
  generalize hh : hitL (fun x => if ltB x t then (-1 : Int) else if x.toList = t.toList then 0 else 1) l = b at *
  rw [Bool.eq_iff_iff, decide_eq_true_eq]
  cases b with
  | false =>
    constructor
    · intro e; cases e
    · intro ht
      have h1 : (l.find? fun x => decide (id x = t)).isSome := by rw [List.find?_isSome]; exact ⟨t, ht, by simp⟩
      rw [hf] at h1; simp at h1
  | true =>
    refine ⟨fun _ => ?_, fun _ => rfl⟩
    unfold hitL at hh
    split at hh
    · rename_i x hx
      rw [if_pos rfl, hx] at hf
      have h1 := List.find?_some hf
      have h2 := List.mem_of_find?_eq_some hf
      have : x = t := by simpa using h1
      rwa [this] at h2
    · cases hh
theorem binG_pc {l : List ByteArray} (h : Rise id l) (hl : l.length ≤ 1000000) (t : ByteArray) : PCp 165 [.c (.lst 1 (l.map encS)), .c (.str t)] [] (.tup [.c (.int .i64 ((cntS t l : Nat) : Int)), .c (.bool (decide (t ∈ l)))]) [] := by
  rw [← hitG_eq h]
  refine binS_pc t l hl ?_
  intro i j hj hij hlt
  rcases Nat.lt_or_ge i j with h1 | h1
  · exact ltB_trans (h.at h1 hj) hlt
  · have : i = j := by omega
    subst this; exact hlt
end Go.Proofs.YtbdlhiogjnbhjaaGreat

namespace Go.Proofs.YtbdlhiogjnbhjaaGreat
set_option linter.unusedVariables false
set_option linter.unusedSimpArgs false
open Abs

theorem k0 {k : Nat} : decide ((0 : Int) < (k : Int)) = !decide (k = 0) := by
  rw [Bool.eq_iff_iff]; simp; omega
theorem seq_hit {α : Type} {e : Bool → ByteArray → α → Int} {key : α → ByteArray} {l : List α} {k : Nat} {f : Bool} {b : ByteArray} {r v : Int} (hk : k < l.length) (hi : seqErr e key f b (l.drop k) = r) (hv : e f b l[k] = v) (h0 : v ≠ 0) : v = r := by
  rw [seqErr_drop hk, hv, if_neg h0] at hi; exact hi
theorem seq_next {α : Type} {e : Bool → ByteArray → α → Int} {key : α → ByteArray} {l : List α} {k : Nat} {f : Bool} {b : ByteArray} {r : Int} (hk : k < l.length) (hi : seqErr e key f b (l.drop k) = r) (hv : e f b l[k] = 0) : seqErr e key false (key l[k]) (l.drop (k + 1)) = r := by
  rw [seqErr_drop hk, hv, if_pos rfl] at hi; exact hi
theorem seq_next' {α : Type} {e : Bool → ByteArray → α → Int} {key : α → ByteArray} {l : List α} {k : Nat} {f : Bool} {b : ByteArray} {r : Int} (hk : k < l.length) (hi : seqErr e key f b (l.drop k) = r) (hv : e f b l[k] = 0) : seqErr e key (decide (k + 1 = 0)) (befK key l (k + 1)) (l.drop (k + 1)) = r := by
  rw [befK_succ hk]; exact seq_next hk hi hv
theorem seq_end {α : Type} {e : Bool → ByteArray → α → Int} {key : α → ByteArray} {l : List α} {f : Bool} {b : ByteArray} {r : Int} (hi : seqErr e key f b (l.drop l.length) = r) : r = 0 := by
  rw [List.drop_of_length_le (Nat.le_refl _)] at hi; exact hi.symm
set_option maxRecDepth 100000 in
set_option maxHeartbeats 4000000 in
theorem checkDucts_pc (d : List Du) : PCp 50 [.c (.lst 5 (d.map encDu))] [] (.c (.int .i64 (duFault d))) [] := by
  have hlm : (d.map encDu).length = d.length := List.length_map ..
  refine fn_sound (mt := mts) tab_fits tab_mixed Tryz.func50 (by rfl) (by kernel_rfl) (by kernel_rfl) Tryz.results50 (Nat.le_of_ble_eq_true (by kernel_rfl)) ?_
  conv => whnf
  repeat' (first | (refine CondG.mk (fun h => ?_) (fun h => ?_) <;> (try simp only [decide_eq_true_eq, decide_eq_false_iff_not, Bool.not_eq_true', Bool.not_eq_false', beq_iff_eq, beq_eq_false_iff_ne, bne_iff_ne, bne_eq_false_iff_eq] at h) <;> (first | (exfalso; first | omega | exact h trivial) | (conv => whnf))) | fail)
  · exact fini (by rw [duFault, if_pos (by omega)])
  have hF : duFault d = seqErr duErr Du.key true ⟨#[]⟩ d := by rw [duFault, if_neg (by omega)]
  refine loop_for (d.length) [] [0, 8, 9, 10] (fun k (_ : Unit) => [(10, .c (.int .i64 (k : Int)))]) (fun k (_ : Unit) => []) (fun k (_ : Unit) => seqErr duErr Du.key (decide (k = 0)) (befK Du.key d k) (d.drop k) = duFault d) (()) ?_
  conv => whnf
  refine ⟨(by first | rfl | (simp; done) | (simp; rfl)), ?_, ?_, ?_⟩
  · exact hF.symm
  · intro k _ hk hi
    conv => whnf
    repeat' (first | (refine .mk (fun h => ?_) (fun h => ?_) <;> (try simp only [decide_eq_true_eq, decide_eq_false_iff_not, Bool.not_eq_true', Bool.not_eq_false', beq_iff_eq, beq_eq_false_iff_ne, bne_iff_ne, bne_eq_false_iff_eq] at h) <;> (first | (exfalso; first | omega | exact h trivial) | (conv => whnf))) | (refine  CallX.mk _ _ (by first | exact bKey_pc _ | exact bOut_pc _ _ _) ?_; conv => whnf) | (refine idx_at _ (by with_reducible rfl) (by first | assumption | omega) ?_; conv => whnf) | ((refine idx_map (k - 1) (by omega) (by rw [wrap_in (by omega) (by omega)]; omega) ?_); conv => whnf) | fail)
    all_goals try simp only [toList_eq'] at *
    all_goals have hb := befK_pos (key := Du.key) (l := d) (Nat.le_of_lt hk)
    all_goals first
      | (refine fini (seq_hit hk hi ?_ (by decide)); clear hi hF; unfold duErr; (try rw [hb (by omega)]); (repeat' split) <;> first | rfl | (exfalso; first | omega | (simp_all [leB, toList_eq']; done) | (simp_all [leB, toList_eq']; omega)))
      | (refine count_next () hk (by rw [wrap_succ hk (by omega)]; rfl) (seq_next' hk hi ?_); clear hi hF; unfold duErr; (try rw [hb (by omega)]); (repeat' split) <;> first | rfl | (exfalso; first | omega | (simp_all [leB, toList_eq']; done) | (simp_all [leB, toList_eq']; omega)))
  · intro _ hi
    conv => whnf
    repeat' (first | (refine CondG.mk (fun h => ?_) (fun h => ?_) <;> (try simp only [decide_eq_true_eq, decide_eq_false_iff_not, Bool.not_eq_true', Bool.not_eq_false', beq_iff_eq, beq_eq_false_iff_ne, bne_iff_ne, bne_eq_false_iff_eq] at h) <;> (first | (exfalso; first | omega | exact h trivial) | (conv => whnf))) | fail)
    exact fini (seq_end hi).symm
end Go.Proofs.YtbdlhiogjnbhjaaGreat

namespace Go.Proofs.YtbdlhiogjnbhjaaGreat
set_option linter.unusedVariables false
set_option linter.unusedSimpArgs false
open Abs

set_option maxRecDepth 100000 in
set_option maxHeartbeats 4000000 in
theorem bsSv_pc (g : Nat) (c : Sv → Int) (t : S) (l : List Sv) (hl : l.length ≤ 1000000) (hmono : ∀ i j (hj : j < l.length) (hij : i ≤ j), c l[j] < 0 → c (l[i]'(by omega)) < 0) (ht : isStr t) (hg : ∀ x ∈ l, PCp g [.agg (encSv x), t] [] (.c (.int .i64 (c x))) []) :
    PCp 166 [.c (.lst 3 (l.map encSv)), t, .c (.fn g [])] [] (.tup [.c (.int .i64 ((cntL c l : Nat) : Int)), .c (.bool (hitL c l))]) [] := by
  have hlm : (l.map encSv).length = l.length := List.length_map ..
  obtain ⟨key, rfl⟩ := ht
  refine fn_sound (mt := mts) tab_fits tab_mixed Tryz.func166 (by rfl) (by kernel_rfl) (by kernel_rfl) Tryz.results166 (Nat.le_of_ble_eq_true (by kernel_rfl)) ?_
  conv => whnf
  refine loop_meas2 (fun (i : Nat) (j : Nat) => j - i) [] [0, 1, 2, 8, 9, 10] (fun (i : Nat) (j : Nat) => ⟨[(0, .c (.lst 3 (l.map encSv))), (1, .c (.str key)), (2, .c (.fn g [])), (8, .c (.int .i64 (l.map encSv).length)), (9, .c (.int .i64 ((i : Nat) : Int))), (10, .c (.int .i64 ((j : Nat) : Int)))], [], 0⟩) (fun (i : Nat) (j : Nat) => i ≤ j ∧ j ≤ l.length ∧ (∀ k (h : k < l.length), k < i → c l[k] < 0) ∧ (∀ k (h : k < l.length), j ≤ k → ¬ c l[k] < 0)) (0) (l.length) ?_ ?_
  · conv => whnf
    exact ⟨by rw [hlm]; rfl, Nat.zero_le _, Nat.le_refl _, by intro k h h2; omega, by intro k h h2; omega⟩
  · intro i j ⟨h1, h2, h3, h4⟩
    have hmid := mid_eq (i := i) (j := j) (by omega)
    conv => whnf
    repeat' (first | (refine .mk (fun h => ?_) (fun h => ?_) <;> (try simp only [decide_eq_true_eq, decide_eq_false_iff_not, Bool.not_eq_true', Bool.not_eq_false', beq_iff_eq, beq_eq_false_iff_ne, bne_iff_ne, bne_eq_false_iff_eq] at h) <;> (first | (exfalso; first | omega | exact h trivial) | (conv => whnf))) | (refine .mk (by first | omega | (unfold roomOK; simp [cutRows]; done) | (unfold roomOK; simp [cutRows]; omega) | (simp [cutRows]; done) | (simp [cutRows]; omega)) ?_; conv => whnf) | (refine idx_at _ (by with_reducible rfl) (by first | assumption | omega) ?_; conv => whnf) | fail)
    · rw [hmid]
      refine idx_map ((i + j) / 2) (by omega) rfl ?_
      conv => whnf
      repeat' (first | (refine CondG.mk (fun h => ?_) (fun h => ?_) <;> (try simp only [decide_eq_true_eq, decide_eq_false_iff_not, Bool.not_eq_true', Bool.not_eq_false', beq_iff_eq, beq_eq_false_iff_ne] at h) <;> (first | (exfalso; first | omega | exact h trivial) | (conv => whnf))) | (refine  CallX.mk _ _ (by exact hg (l[(i + j) / 2]'(by omega)) (List.getElem_mem _)) ?_; conv => whnf) | fail)
      · exact meas_next ((i + j) / 2 + 1, j) (by simp only; omega) (by rw [wrap_succ (n := l.length) (by omega) (by omega)]; rfl) ⟨by simp only; omega, h2, fun k hk hki => hmono k ((i + j) / 2) (by omega) (by simp only at hki; omega) h, h4⟩
      · exact meas_next (i, (i + j) / 2) (by simp only; omega) rfl ⟨by simp only; omega, by simp only; omega, h3, fun k hk hki => fun hc => h (hmono ((i + j) / 2) k hk hki hc)⟩
    all_goals
      have hij : i = j := by omega
      subst hij
      have hci : cntL c l = i := cntL_at h2 h3 h4
    · repeat' (first
        | (refine CallX.mk _ _ (by exact hg (l[i]'(by omega)) (List.getElem_mem _)) ?_; conv => whnf)
        | fail)
      exact .mk ⟨by rw [hitL, hci, List.getElem?_eq_getElem (show i < l.length by omega)]; rfl, rfl⟩
    · exact .mk ⟨by rw [hitL, hci, List.getElem?_eq_none (show l.length ≤ i by omega)]; rfl, rfl⟩
set_option maxRecDepth 100000 in
set_option maxHeartbeats 4000000 in
theorem keysFault_pc (l : List ByteArray) (hl : l.length ≤ 1000000) : PCp 163 [.c (.lst 1 (l.map encS))] [] (.c (.int .i64 (elsErr l))) [] := by
  have hlm : (l.map encS).length = l.length := List.length_map ..
  refine fn_sound (mt := mts) tab_fits tab_mixed Tryz.func163 (by rfl) (by kernel_rfl) (by kernel_rfl) Tryz.results163 (Nat.le_of_ble_eq_true (by kernel_rfl)) ?_
  conv => whnf
  refine loop_for (l.length) [] [0, 5, 6, 7] (fun k (_ : Unit) => [(7, .c (.int .i64 (k : Int)))]) (fun k (_ : Unit) => []) (fun k (_ : Unit) => seqErr elErr id (decide (k = 0)) (befK id l k) (l.drop k) = elsErr l) (()) ?_
  conv => whnf
  refine ⟨(by first | rfl | (simp; done) | (simp; rfl)), ?_, ?_, ?_⟩
  · rfl
  · intro k _ hk hi
    conv => whnf
    repeat' (first | (refine .mk (fun h => ?_) (fun h => ?_) <;> (try simp only [decide_eq_true_eq, decide_eq_false_iff_not, Bool.not_eq_true', Bool.not_eq_false', beq_iff_eq, beq_eq_false_iff_ne, bne_iff_ne, bne_eq_false_iff_eq] at h) <;> (first | (exfalso; first | omega | exact h trivial) | (conv => whnf))) | (refine  CallX.mk _ _ (by exact bKey_pc _) ?_; conv => whnf) | (refine idx_at _ (by with_reducible rfl) (by first | assumption | omega) ?_; conv => whnf) | ((refine idx_map (k - 1) (by omega) (by rw [wrap_in (by omega) (by omega)]; omega) ?_); conv => whnf) | fail)
    all_goals try simp only [toList_eq'] at *
    all_goals have hb := befK_pos (key := id) (l := l) (Nat.le_of_lt hk)
    all_goals first
      | (refine fini (seq_hit hk hi ?_ (by decide)); clear hi; unfold elErr; (try rw [hb (by omega)]); (repeat' split) <;> first | rfl | (exfalso; first | omega | (simp_all [leB, toList_eq']; done) | (simp_all [leB, toList_eq']; omega)))
      | (refine count_next () hk (by rw [wrap_succ hk (by omega)]; rfl) (seq_next' hk hi ?_); clear hi; unfold elErr; (try rw [hb (by omega)]); (repeat' split) <;> first | rfl | (exfalso; first | omega | (simp_all [leB, toList_eq']; done) | (simp_all [leB, toList_eq']; omega)))
  · intro _ hi
    conv => whnf
    repeat' (first | (refine CondG.mk (fun h => ?_) (fun h => ?_) <;> (try simp only [decide_eq_true_eq, decide_eq_false_iff_not, Bool.not_eq_true', Bool.not_eq_false', beq_iff_eq, beq_eq_false_iff_ne, bne_iff_ne, bne_eq_false_iff_eq] at h) <;> (first | (exfalso; first | omega | exact h trivial) | (conv => whnf))) | fail)
    exact fini (seq_end hi).symm
set_option maxRecDepth 100000 in
set_option maxHeartbeats 4000000 in
theorem checkServices_pc (s : List Sv) (hx : ∀ x ∈ s, x.els.length ≤ 1000000) : PCp 124 [.c (.lst 3 (s.map encSv))] [] (.c (.int .i64 (svFault s))) [] := by
  have hlm : (s.map encSv).length = s.length := List.length_map ..
  refine fn_sound (mt := mts) tab_fits tab_mixed Tryz.func124 (by rfl) (by kernel_rfl) (by kernel_rfl) Tryz.results124 (Nat.le_of_ble_eq_true (by kernel_rfl)) ?_
  conv => whnf
  repeat' (first | (refine CondG.mk (fun h => ?_) (fun h => ?_) <;> (try simp only [decide_eq_true_eq, decide_eq_false_iff_not, Bool.not_eq_true', Bool.not_eq_false', beq_iff_eq, beq_eq_false_iff_ne, bne_iff_ne, bne_eq_false_iff_eq] at h) <;> (first | (exfalso; first | omega | exact h trivial) | (conv => whnf))) | fail)
  · exact fini (by rw [svFault, if_pos (by omega)])
  have hF : svFault s = seqErr svErr Sv.key true ⟨#[]⟩ s := by rw [svFault, if_neg (by omega)]
  refine loop_for (s.length) [] [0, 9, 10, 11] (fun k (_ : Unit) => [(11, .c (.int .i64 (k : Int)))]) (fun k (_ : Unit) => []) (fun k (_ : Unit) => seqErr svErr Sv.key (decide (k = 0)) (befK Sv.key s k) (s.drop k) = svFault s) (()) ?_
  conv => whnf
  refine ⟨(by first | rfl | (simp; done) | (simp; rfl)), ?_, ?_, ?_⟩
  · exact hF.symm
  · intro k _ hk hi
    have hxk := hx _ (List.getElem_mem hk)
    have hxm : (s[k].els.map encS).length = s[k].els.length := List.length_map ..
    conv => whnf
    repeat' (first | (refine .mk (fun h => ?_) (fun h => ?_) <;> (try simp only [decide_eq_true_eq, decide_eq_false_iff_not, Bool.not_eq_true', Bool.not_eq_false', beq_iff_eq, beq_eq_false_iff_ne, bne_iff_ne, bne_eq_false_iff_eq] at h) <;> (first | (exfalso; first | omega | exact h trivial) | (conv => whnf))) | (refine  CallX.mk _ _ (by first | exact bKey_pc _ | exact bOut_pc _ _ _ | exact keysFault_pc _ hxk) ?_; conv => whnf) | (refine idx_at _ (by with_reducible rfl) (by first | assumption | omega) ?_; conv => whnf) | ((refine idx_map (k - 1) (by omega) (by rw [wrap_in (by omega) (by omega)]; omega) ?_); conv => whnf) | fail)
    all_goals try simp only [toList_eq'] at *
    all_goals have hb := befK_pos (key := Sv.key) (l := s) (Nat.le_of_lt hk)
    all_goals first
      | (refine fini (seq_hit hk hi ?_ (by first | decide | (simp_all; done))); clear hi hF; unfold svErr elsFault; (try rw [hb (by omega)]); (repeat' split) <;> first | rfl | (exfalso; first | omega | (simp_all [leB, toList_eq']; done) | (simp_all [leB, toList_eq']; omega)))
      | (refine count_next () hk (by rw [wrap_succ hk (by omega)]; rfl) (seq_next' hk hi ?_); clear hi hF; unfold svErr elsFault; (try rw [hb (by omega)]); (repeat' split) <;> first | rfl | (exfalso; first | omega | (simp_all [leB, toList_eq']; done) | (simp_all [leB, toList_eq']; omega)))
  · intro _ hi
    conv => whnf
    repeat' (first | (refine CondG.mk (fun h => ?_) (fun h => ?_) <;> (try simp only [decide_eq_true_eq, decide_eq_false_iff_not, Bool.not_eq_true', Bool.not_eq_false', beq_iff_eq, beq_eq_false_iff_ne, bne_iff_ne, bne_eq_false_iff_eq] at h) <;> (first | (exfalso; first | omega | exact h trivial) | (conv => whnf))) | fail)
    exact fini (seq_end hi).symm
def svIx (s : List Sv) (k : ByteArray) : Int := if hitL (fun x : Sv => cmpS x.key k) s then (cntL (fun x : Sv => cmpS x.key k) s : Int) else -1
theorem svIx_or {s : List Sv} (hr : Rise Sv.key s) (k : ByteArray) : (hasSv s k = false ∧ svIx s k = -1) ∨ (hasSv s k = true ∧ ∃ i, ∃ hi : i < s.length, svIx s k = ((i : Nat) : Int) ∧ s[i] = svG s k) := by
  have hc : ∀ x : Sv, (cmpS x.key k < 0 ↔ ltB x.key k = true) ∧ (cmpS x.key k = 0 ↔ x.key = k) := fun x => ⟨cmp_lt, cmp_zero⟩
  have hf := find_rise (c := fun x : Sv => cmpS x.key k) hc hr
  unfold svIx hasSv svG
  cases h : hitL (fun x : Sv => cmpS x.key k) s with
  | false =>
    left
    have hn : svAt s k = none := by unfold svAt; rw [hf, h]; rfl
    rw [hn]; exact ⟨rfl, by simp⟩
  | true =>
    right
    have hlt : cntL (fun x : Sv => cmpS x.key k) s < s.length := by
      rcases Nat.lt_or_ge (cntL (fun x : Sv => cmpS x.key k) s) s.length with h1 | h1
      · exact h1
      · unfold hitL at h; rw [List.getElem?_eq_none h1] at h; cases h
    have hn : svAt s k = some (s[cntL (fun x : Sv => cmpS x.key k) s]) := by unfold svAt; rw [hf, if_pos h, List.getElem?_eq_getElem hlt]
    rw [hn]
    exact ⟨rfl, _, hlt, by simp, rfl⟩
set_option maxRecDepth 100000 in
set_option maxHeartbeats 4000000 in
theorem fFind1_pc (x : Sv) (k : ByteArray) : PCp 167 [.agg (encSv x), .c (.str k)] [] (.c (.int .i64 (cmpS x.key k))) [] := by
  refine fn_sound (mt := mts) tab_fits tab_mixed Tryz.func167 (by rfl) (by kernel_rfl) (by kernel_rfl) Tryz.results167 (Nat.le_of_ble_eq_true (by kernel_rfl)) ?_
  conv => whnf
  repeat' (first | (refine  CallX.mk _ _ (by exact sCompare_pc _ _) ?_; conv => whnf) | fail)
  exact fini rfl
set_option maxRecDepth 100000 in
set_option maxHeartbeats 4000000 in
theorem fFind_pc (s : List Sv) (hr : Rise Sv.key s) (hl : s.length ≤ 1000000) (k : ByteArray) : PCp 129 [.c (.lst 3 (s.map encSv)), .c (.str k)] [] (.c (.int .i64 (svIx s k))) [] := by
  have hlm : (s.map encSv).length = s.length := List.length_map ..
  refine fn_sound (mt := mts) tab_fits tab_mixed Tryz.func129 (by rfl) (by kernel_rfl) (by kernel_rfl) Tryz.results129 (Nat.le_of_ble_eq_true (by kernel_rfl)) ?_
  conv => whnf
  repeat' (first | (refine CondG.mk (fun h => ?_) (fun h => ?_) <;> (try simp only [decide_eq_true_eq, decide_eq_false_iff_not, Bool.not_eq_true', Bool.not_eq_false', beq_iff_eq, beq_eq_false_iff_ne, bne_iff_ne, bne_eq_false_iff_eq] at h) <;> (first | (exfalso; first | omega | exact h trivial) | (conv => whnf))) | (refine  CallX.mk _ _ (by exact bsSv_pc 167 (fun x => cmpS x.key k) (.c (.str k)) s hl (rise_mono (fun x => cmp_lt) hr) ⟨_, rfl⟩ (fun x _ => fFind1_pc x k)) ?_; conv => whnf) | fail)
  · exact fini (by rw [svIx, if_neg (by rw [h]; decide)])
  · exact fini (by rw [svIx, if_pos h])
set_option maxRecDepth 100000 in
set_option maxHeartbeats 4000000 in
theorem listFault_pc (s : List Sv) (hs : SvOk s) (l : List ByteArray) : PCp 125 [.c (.lst 3 (s.map encSv)), .c (.lst 1 (l.map encS))] [] (.c (.int .i64 (stErr s l))) [] := by
  have hlm : (l.map encS).length = l.length := List.length_map ..
  have hsl := hs.len
  refine fn_sound (mt := mts) tab_fits tab_mixed Tryz.func125 (by rfl) (by kernel_rfl) (by kernel_rfl) Tryz.results125 (Nat.le_of_ble_eq_true (by kernel_rfl)) ?_
  conv => whnf
  repeat' (first | (refine CondG.mk (fun h => ?_) (fun h => ?_) <;> (try simp only [decide_eq_true_eq, decide_eq_false_iff_not, Bool.not_eq_true', Bool.not_eq_false', beq_iff_eq, beq_eq_false_iff_ne, bne_iff_ne, bne_eq_false_iff_eq] at h) <;> (first | (exfalso; first | omega | exact h trivial) | (conv => whnf))) | fail)
  · exact fini (by rw [stErr, if_pos (by omega)])
  have hF : stErr s l = seqErr (keyErr (hasSv s)) id true ⟨#[]⟩ l := by rw [stErr, if_neg (by omega)]
  refine loop_for (l.length) [] [0, 1, 10, 11, 12] (fun k (_ : Unit) => [(12, .c (.int .i64 (k : Int)))]) (fun k (_ : Unit) => []) (fun k (_ : Unit) => seqErr (keyErr (hasSv s)) id (decide (k = 0)) (befK id l k) (l.drop k) = stErr s l) (()) ?_
  conv => whnf
  refine ⟨(by first | rfl | (simp; done) | (simp; rfl)), ?_, ?_, ?_⟩
  · exact hF.symm
  · intro k _ hk hi
    have hIx : svIx s l[k] < 0 ↔ hasSv s l[k] = false := by
      rcases svIx_or hs.rise l[k] with ⟨h1, h2⟩ | ⟨h1, i, hi, h2, _⟩
      · rw [h1, h2]; simp
      · rw [h1, h2]; simp
    conv => whnf
    repeat' (first | (refine .mk (fun h => ?_) (fun h => ?_) <;> (try simp only [decide_eq_true_eq, decide_eq_false_iff_not, Bool.not_eq_true', Bool.not_eq_false', beq_iff_eq, beq_eq_false_iff_ne, bne_iff_ne, bne_eq_false_iff_eq] at h) <;> (first | (exfalso; first | omega | exact h trivial) | (conv => whnf))) | (refine  CallX.mk _ _ (by exact fFind_pc s hs.rise (by omega) _) ?_; conv => whnf) | (refine idx_at _ (by with_reducible rfl) (by first | assumption | omega) ?_; conv => whnf) | ((refine idx_map (k - 1) (by omega) (by rw [wrap_in (by omega) (by omega)]; omega) ?_); conv => whnf) | fail)
    all_goals try simp only [toList_eq', hIx] at *
    all_goals have hb := befK_pos (key := id) (l := l) (Nat.le_of_lt hk)
    all_goals first
      | (refine fini (seq_hit hk hi ?_ (by decide)); clear hi hF; unfold keyErr; (try rw [hb (by omega)]); (repeat' split) <;> first | rfl | (exfalso; first | omega | (simp_all [leB, toList_eq']; done) | (simp_all [leB, toList_eq']; omega)))
      | (refine count_next () hk (by rw [wrap_succ hk (by omega)]; rfl) (seq_next' hk hi ?_); clear hi hF; unfold keyErr; (try rw [hb (by omega)]); (repeat' split) <;> first | rfl | (exfalso; first | omega | (simp_all [leB, toList_eq']; done) | (simp_all [leB, toList_eq']; omega)))
  · intro _ hi
    conv => whnf
    repeat' (first | (refine CondG.mk (fun h => ?_) (fun h => ?_) <;> (try simp only [decide_eq_true_eq, decide_eq_false_iff_not, Bool.not_eq_true', Bool.not_eq_false', beq_iff_eq, beq_eq_false_iff_ne, bne_iff_ne, bne_eq_false_iff_eq] at h) <;> (first | (exfalso; first | omega | exact h trivial) | (conv => whnf))) | fail)
    exact fini (seq_end hi).symm
end Go.Proofs.YtbdlhiogjnbhjaaGreat

namespace Go.Proofs.YtbdlhiogjnbhjaaGreat
set_option linter.unusedVariables false
set_option linter.unusedSimpArgs false
open Abs

theorem dw_rows {sz : Nat} {rows rows' : List (List V)} (h : P2 (P2 DW) rows rows') : DW (.lst sz rows) (.lst sz rows') :=
  .lst sz rows rows' h.1 (fun i r r' h1 h2 => (h.2 i r r' h1 h2).1) (fun i r r' h1 h2 j v v' h3 h4 => (h.2 i r r' h1 h2).2 j v v' h3 h4)
theorem p2_refl {α : Type} {R : α → α → Prop} (hr : ∀ x, R x x) (l : List α) : P2 R l l := ⟨rfl, fun j x y h1 h2 => by rw [h1] at h2; cases h2; exact hr x⟩
theorem p2_set {α : Type} {R : α → α → Prop} (hr : ∀ x, R x x) {l : List α} {x y : α} (h : R x y) (i : Nat) : P2 R (l.set i x) (l.set i y) := by
  refine ⟨by simp, fun j a b h1 h2 => ?_⟩
  rw [List.getElem?_set] at h1 h2
  split at h1
  · rename_i e
    rw [if_pos e] at h2
    split at h1
    · rename_i e2; rw [if_pos e2] at h2; cases h1; cases h2; exact h
    · cases h1
  · rename_i e
    rw [if_neg e, h1] at h2; cases h2; exact hr a
end Go.Proofs.YtbdlhiogjnbhjaaGreat

namespace Go.Proofs.YtbdlhiogjnbhjaaGreat
set_option linter.unusedVariables false
set_option linter.unusedSimpArgs false
open Abs

theorem room_small {ti : TI} {n : Nat} (h : n ≤ 1000000) (hb : ti.bytes ≤ 1000) : roomOK ti n := ⟨by omega, Nat.le_trans (Nat.mul_le_mul h hb) (by decide)⟩
end Go.Proofs.YtbdlhiogjnbhjaaGreat

namespace Go.Proofs.YtbdlhiogjnbhjaaGreat
set_option linter.unusedVariables false
set_option linter.unusedSimpArgs false
open Abs

end Go.Proofs.YtbdlhiogjnbhjaaGreat

namespace Go.Proofs.YtbdlhiogjnbhjaaGreat
set_option linter.unusedVariables false
set_option linter.unusedSimpArgs false
namespace Abs
section
variable {κ β : Type} [DecidableEq κ]
theorem SM.get_of {s : SM κ β} (h : s.ok) {e : Nat × κ × β} (he : e ∈ s.es) : s.get e.2.1 = some e.2.2 := by
  have hk := h.kn
  unfold SM.get SM.m at *
  generalize s.es = es at he hk
  clear h
  induction es with
  | nil => cases he
  | cons a r ih =>
    simp only [List.map_cons, List.nodup_cons] at hk
    rcases List.mem_cons.1 he with rfl | he
    · simp [mget]
    · have hne : ¬ a.2.1 = e.2.1 := by
        intro h2
        exact hk.1 (by rw [h2]; exact List.mem_map.2 ⟨e.2, List.mem_map.2 ⟨e, he, rfl⟩, rfl⟩)
      have := ih he hk.2
      simpa [mget, List.find?_cons, hne] using this
theorem SM.mem_of {s : SM κ β} {x : κ} {y : β} (h : s.get x = some y) : ∃ n, (n, x, y) ∈ s.es := by
  unfold SM.get SM.m at h
  generalize s.es = es at h
  induction es with
  | nil => simp [mget] at h
  | cons a r ih =>
    by_cases hx : a.2.1 = x
    · have hy : a.2.2 = y := by simpa [mget, List.find?_cons, hx] using h
      exact ⟨a.1, by rw [← hx, ← hy]; simp⟩
    · obtain ⟨n, hn⟩ := ih (by simpa [mget, List.find?_cons, hx] using h)
      exact ⟨n, by simp [hn]⟩
omit [DecidableEq κ] in
theorem SM.keys_nd {s : SM κ β} (h : s.ok) : (s.es.map (·.2.1)).Nodup := by
  have := h.kn
  rw [SM.m, List.map_map] at this
  exact this
theorem eput_lenG (c : Nat) : ∀ (es : List (Nat × κ × β)) (x : κ) (y : β), (eput c es x y).length ≤ es.length + 1
  | [], _, _ => by simp [eput]
  | e :: r, x, y => by
    unfold eput
    split
    · simp
    · have := eput_lenG c r x y; simp; omega
def putAll (m : SM κ β) (l : List κ) (b : β) : SM κ β := l.foldl (fun m x => m.put x b) m
theorem putAll_ok {b : β} : ∀ (l : List κ) {m : SM κ β}, m.ok → (putAll m l b).ok
  | [], m, h => h
  | a :: r, m, h => putAll_ok r (h.put a b)
theorem putAll_len {b : β} : ∀ (l : List κ) (m : SM κ β), (putAll m l b).es.length ≤ m.es.length + l.length
  | [], m => by simp [putAll]
  | a :: r, m => by
    have h1 := putAll_len (b := b) r (m.put a b)
    have h2 := eput_lenG m.clock m.es a b
    unfold putAll at h1 ⊢
    rw [List.foldl_cons]
    have h3 : (m.put a b).es.length = (eput m.clock m.es a b).length := rfl
    simp only [List.length_cons]; omega
theorem putAll_app {b : β} (m : SM κ β) (l l' : List κ) : putAll m (l ++ l') b = putAll (putAll m l b) l' b := List.foldl_append
theorem putAll_succ {b : β} (m : SM κ β) (l : List κ) {k : Nat} (h : k < l.length) : putAll m (l.take (k + 1)) b = (putAll m (l.take k) b).put l[k] b := by
  rw [List.take_succ_eq_append_getElem h, putAll_app]; rfl
end
abbrev ekB : ByteArray → S := fun b => .c (.str b)
abbrev evT : Bool → S := fun b => .c (.bool b)
abbrev MB := SM ByteArray Bool
def ktL (es : List (Nat × ByteArray × Bool)) : List ByteArray := (es.filter fun e => e.2.2).map (·.2.1)
theorem ktL_len (es : List (Nat × ByteArray × Bool)) : (ktL es).length ≤ es.length := by unfold ktL; rw [List.length_map]; exact List.length_filter_le _ _
end Abs
end Go.Proofs.YtbdlhiogjnbhjaaGreat

namespace Go.Proofs.YtbdlhiogjnbhjaaGreat
set_option linter.unusedVariables false
set_option linter.unusedSimpArgs false
open Abs

theorem srt_one {a b : List ByteArray} (hp : a.Perm b) : insSort cmpS a = insSort cmpS b := by
  refine sorted_one (c := cmpS) (swo_key id) ?_ ((insSort_perm cmpS a).trans (hp.trans (insSort_perm cmpS b).symm)) (insSort_srt (swo_key id) a) (insSort_srt (swo_key id) b)
  intro x y h1 h2
  rw [cmp_lt] at h1 h2
  rcases ltB_tri x y with h | h | h
  · exact (h1 h).elim
  · exact h
  · exact (h2 h).elim
def risV (m : MB) : List ByteArray := insSort cmpS (ktL m.es)
set_option maxRecDepth 100000 in
set_option maxHeartbeats 4000000 in
theorem fRising_pc (m : MB) (hok : m.ok) (hl : m.es.length ≤ 1000000) : PCp 130 [.c (.mp 0)] [smO ekB evT m] (.c (.lst 1 ((risV m).map encS))) [smO ekB evT m] := by
  refine fn_sound (mt := mts) tab_fits tab_mixed Tryz.func130 (by rfl) (by kernel_rfl) (by kernel_rfl) Tryz.results130 (Nat.le_of_ble_eq_true (by kernel_rfl)) ?_
  conv => whnf
  refine loop_meas (fun (vis : List (Nat × ByteArray × Bool)) => m.es.length - vis.length) [.sl 3 9 1] [3, 7] (fun (vis : List (Nat × ByteArray × Bool)) => ⟨[(3, .c (.row 1)), (7, .c (.ptr 2 0))], [(0, smO ekB evT m), (1, .row 9 1 ((ktL vis.reverse).map encS)), (2, .iter 0 m.clock (vis.map (·.1)))], 3⟩) (fun (vis : List (Nat × ByteArray × Bool)) => Vis m vis) ([]) ?_ ?_
  · conv => whnf
    exact ⟨rfl, Vis.nil _⟩
  · intro vis hv
    have hvl := hv.len
    have hsl := ktL_len vis.reverse
    rw [List.length_reverse] at hsl
    have hslm : ((ktL vis.reverse).map encS).length = (ktL vis.reverse).length := List.length_map ..
    conv => whnf
    refine .mk rfl ?_
    conv => whnf
    refine sm_next hok hv (fun hp => ?_) (fun e he hn hv' hlt => ?_)
    · conv => whnf
      have hpr : (ktL vis.reverse).Perm (ktL m.es) := (((List.reverse_perm vis).trans hp).filter _).map _
      repeat' (first | (refine  CallX.mk _ _ (by exact sortG_pc (ktL vis.reverse) (by omega)) ?_; conv => whnf) | fail)
      have h1 : insSort cmpS (ktL vis.reverse) = risV m := srt_one hpr
      rw [h1]
      first
        | exact .frz 1 _ _ _ rfl (.weak [_, _] (.fro 1 _ _ rfl) rfl (Nat.le_refl _))
        | exact .frz 1 _ _ _ rfl (.weak [_] (.fro 1 _ _ rfl) rfl (Nat.le_refl _))
    · obtain ⟨en, ek, eb⟩ := e
      have h1 : ktL ((en, ek, eb) :: vis).reverse = ktL vis.reverse ++ (if eb then [ek] else []) := by
        cases eb <;> simp [ktL]
      conv => whnf
      refine .mk rfl ?_
      conv => whnf
      refine sm_at hok he ?_
      conv => whnf
      repeat' (first | (refine CondG.mk (fun h => ?_) (fun h => ?_) <;> (try simp only [decide_eq_true_eq, decide_eq_false_iff_not, Bool.not_eq_true', Bool.not_eq_false', beq_iff_eq, beq_eq_false_iff_ne, bne_iff_ne, bne_eq_false_iff_eq] at h) <;> (first | (exfalso; first | omega | exact h trivial) | (conv => whnf))) | (refine AppG.mk (by first | omega | (unfold roomOK; simp [cutRows]; done) | (unfold roomOK; simp [cutRows]; omega) | (simp [cutRows]; done) | (simp [cutRows]; omega)) ?_; conv => whnf) | fail)
      · exact meas_next ((en, ek, eb) :: vis) (by simp only [List.length_cons]; omega) (by rw [h1, if_pos h, List.map_append]; rfl) hv'
      · exact meas_next ((en, ek, eb) :: vis) (by simp only [List.length_cons]; omega) (by rw [h1, if_neg (by rw [h]; decide), List.append_nil]; rfl) hv'
def elsOf (s : List Sv) (l : List ByteArray) : List ByteArray := l.flatMap fun k => (svG s k).els
def susM (s : List Sv) (down up : List ByteArray) : MB := putAll (putAll SM.nil (elsOf s down) true) (elsOf s up) false
def susV (s : List Sv) (down up : List ByteArray) : List ByteArray := risV (susM s down up)
theorem susM_ok (s : List Sv) (down up : List ByteArray) : (susM s down up).ok := putAll_ok _ (putAll_ok _ SM.ok_nil)
theorem elsOf_succ (s : List Sv) (l : List ByteArray) {k : Nat} (h : k < l.length) : elsOf s (l.take (k + 1)) = elsOf s (l.take k) ++ (svG s l[k]).els := by
  rw [List.take_succ_eq_append_getElem h]; unfold elsOf; rw [List.flatMap_append]; simp
theorem elsOf_len {s : List Sv} (hs : SvOk s) : ∀ {l : List ByteArray}, (∀ k ∈ l, hasSv s k = true) → (elsOf s l).length ≤ 100 * l.length
  | [], _ => by simp [elsOf]
  | a :: r, h => by
    have ih := elsOf_len hs (l := r) (fun k hk => h k (by simp [hk]))
    obtain ⟨x, hx, hk⟩ := hasSv_iff.1 (h a (by simp))
    have h1 : svG s a = x := by rw [← hk]; exact svG_mem hs.rise hx
    have h2 := (hs.each x hx).len
    unfold elsOf at ih ⊢
    rw [List.flatMap_cons, List.length_append, h1]
    simp only [List.length_cons]; omega
set_option maxRecDepth 100000 in
set_option maxHeartbeats 4000000 in
theorem fSuspects_pc (s : List Sv) (hs : SvOk s) (down up : List ByteArray) (hd : StOkL s down) (hu : StOkL s up) :
    PCp 74 [.c (.lst 3 (s.map encSv)), .c (.lst 1 (down.map encS)), .c (.lst 1 (up.map encS))] [] (.c (.lst 1 ((susV s down up).map encS))) [] := by
  have hsl := hs.len
  have hdl := hd.len
  have hul := hu.len
  have hdm : (down.map encS).length = down.length := List.length_map ..
  have hum : (up.map encS).length = up.length := List.length_map ..
  have hsm : (s.map encSv).length = s.length := List.length_map ..
  have hat : ∀ k, hasSv s k = true → ∃ i, ∃ hi : i < s.length, svIx s k = ((i : Nat) : Int) ∧ s[i] = svG s k ∧ s[i].els.length ≤ 100 := by
    intro k hk
    rcases svIx_or hs.rise k with ⟨h1, _⟩ | ⟨_, i, hi, h2, h3⟩
    · rw [h1] at hk; cases hk
    · exact ⟨i, hi, h2, h3, (hs.each _ (List.getElem_mem hi)).len⟩
  refine fn_sound (mt := mts) tab_fits tab_mixed Tryz.func74 (by rfl) (by kernel_rfl) (by kernel_rfl) Tryz.results74 (Nat.le_of_ble_eq_true (by kernel_rfl)) ?_
  conv => whnf
  refine loop_for (down.length) [] [0, 2, 7, 17, 18, 19] (fun k (_ : Unit) => [(19, .c (.int .i64 (k : Int)))]) (fun k (_ : Unit) => [(0, smO ekB evT (putAll SM.nil (elsOf s (down.take k)) true))]) (fun k (_ : Unit) => True) (()) ?_
  conv => whnf
  refine ⟨(by first | rfl | (simp; done) | (simp; rfl)), (by trivial), ?_, ?_⟩
  · intro k _ hk _
    obtain ⟨i, hi, h2, h3, h4⟩ := hat _ (hd.has _ (List.getElem_mem hk))
    have hem : (s[i].els.map encS).length = s[i].els.length := List.length_map ..
    conv => whnf
    repeat' (first | (refine CondG.mk (fun h => ?_) (fun h => ?_) <;> (try simp only [decide_eq_true_eq, decide_eq_false_iff_not, Bool.not_eq_true', Bool.not_eq_false', beq_iff_eq, beq_eq_false_iff_ne, bne_iff_ne, bne_eq_false_iff_eq] at h) <;> (first | (exfalso; first | omega | exact h trivial) | (conv => whnf))) | (refine  CallX.mk _ _ (by exact fFind_pc s hs.rise (by omega) _) ?_; conv => whnf) | (refine idx_at _ (by with_reducible rfl) (by first | assumption | omega) ?_; conv => whnf) | ((rw [h2]; refine idx_map i hi rfl ?_); conv => whnf) | fail)
    refine loop_for (s[i].els.length) [] [0, 2, 7, 17, 18, 19, 29, 30, 31] (fun j (_ : Unit) => [(31, .c (.int .i64 (j : Int)))]) (fun j (_ : Unit) => [(0, smO ekB evT (putAll (putAll SM.nil (elsOf s (down.take k)) true) (s[i].els.take j) true))]) (fun j (_ : Unit) => True) (()) ?_
    conv => whnf
    refine ⟨(by first | rfl | (simp; done) | (simp; rfl)), (by trivial), ?_, ?_⟩
    · intro j _ hj _
      conv => whnf
      repeat' (first | (refine CondG.mk (fun h => ?_) (fun h => ?_) <;> (try simp only [decide_eq_true_eq, decide_eq_false_iff_not, Bool.not_eq_true', Bool.not_eq_false', beq_iff_eq, beq_eq_false_iff_ne, bne_iff_ne, bne_eq_false_iff_eq] at h) <;> (first | (exfalso; first | omega | exact h trivial) | (conv => whnf))) | (refine idx_at _ (by with_reducible rfl) (by first | assumption | omega) ?_; conv => whnf) | ((with_reducible refine sm_upd (ek := ekB) (ev := evT) keyStr _ _ true ?_); conv => whnf) | fail)
      exact count_next () hj (by rw [wrap_succ hj (by omega), putAll_succ _ _ hj]; rfl) trivial
    · intro _ _
      rw [List.take_length]
      conv => whnf
      repeat' (first | (refine CondG.mk (fun h => ?_) (fun h => ?_) <;> (try simp only [decide_eq_true_eq, decide_eq_false_iff_not, Bool.not_eq_true', Bool.not_eq_false', beq_iff_eq, beq_eq_false_iff_ne, bne_iff_ne, bne_eq_false_iff_eq] at h) <;> (first | (exfalso; first | omega | exact h trivial) | (conv => whnf))) | fail)
      exact count_next () hk (by rw [wrap_succ hk (by omega), elsOf_succ s down hk, putAll_app, ← h3]; rfl) trivial
  · intro _ _
    rw [List.take_length]
    conv => whnf
    repeat' (first | (refine CondG.mk (fun h => ?_) (fun h => ?_) <;> (try simp only [decide_eq_true_eq, decide_eq_false_iff_not, Bool.not_eq_true', Bool.not_eq_false', beq_iff_eq, beq_eq_false_iff_ne, bne_iff_ne, bne_eq_false_iff_eq] at h) <;> (first | (exfalso; first | omega | exact h trivial) | (conv => whnf))) | fail)
    refine loop_for (up.length) [] [0, 7, 39, 40, 41] (fun k (_ : Unit) => [(41, .c (.int .i64 (k : Int)))]) (fun k (_ : Unit) => [(0, smO ekB evT (putAll (putAll SM.nil (elsOf s down) true) (elsOf s (up.take k)) false))]) (fun k (_ : Unit) => True) (()) ?_
    conv => whnf
    refine ⟨(by first | rfl | (simp; done) | (simp; rfl)), (by trivial), ?_, ?_⟩
    · intro k _ hk _
      obtain ⟨i, hi, h2, h3, h4⟩ := hat _ (hu.has _ (List.getElem_mem hk))
      have hem : (s[i].els.map encS).length = s[i].els.length := List.length_map ..
      conv => whnf
      repeat' (first | (refine CondG.mk (fun h => ?_) (fun h => ?_) <;> (try simp only [decide_eq_true_eq, decide_eq_false_iff_not, Bool.not_eq_true', Bool.not_eq_false', beq_iff_eq, beq_eq_false_iff_ne, bne_iff_ne, bne_eq_false_iff_eq] at h) <;> (first | (exfalso; first | omega | exact h trivial) | (conv => whnf))) | (refine  CallX.mk _ _ (by exact fFind_pc s hs.rise (by omega) _) ?_; conv => whnf) | (refine idx_at _ (by with_reducible rfl) (by first | assumption | omega) ?_; conv => whnf) | ((rw [h2]; refine idx_map i hi rfl ?_); conv => whnf) | fail)
      refine loop_for (s[i].els.length) [] [0, 7, 39, 40, 41, 51, 52, 53] (fun j (_ : Unit) => [(53, .c (.int .i64 (j : Int)))]) (fun j (_ : Unit) => [(0, smO ekB evT (putAll (putAll (putAll SM.nil (elsOf s down) true) (elsOf s (up.take k)) false) (s[i].els.take j) false))]) (fun j (_ : Unit) => True) (()) ?_
      conv => whnf
      refine ⟨(by first | rfl | (simp; done) | (simp; rfl)), (by trivial), ?_, ?_⟩
      · intro j _ hj _
        conv => whnf
        repeat' (first | (refine CondG.mk (fun h => ?_) (fun h => ?_) <;> (try simp only [decide_eq_true_eq, decide_eq_false_iff_not, Bool.not_eq_true', Bool.not_eq_false', beq_iff_eq, beq_eq_false_iff_ne, bne_iff_ne, bne_eq_false_iff_eq] at h) <;> (first | (exfalso; first | omega | exact h trivial) | (conv => whnf))) | (refine idx_at _ (by with_reducible rfl) (by first | assumption | omega) ?_; conv => whnf) | ((with_reducible refine sm_upd (ek := ekB) (ev := evT) keyStr _ _ false ?_); conv => whnf) | fail)
        exact count_next () hj (by rw [wrap_succ hj (by omega), putAll_succ _ _ hj]; rfl) trivial
      · intro _ _
        rw [List.take_length]
        conv => whnf
        repeat' (first | (refine CondG.mk (fun h => ?_) (fun h => ?_) <;> (try simp only [decide_eq_true_eq, decide_eq_false_iff_not, Bool.not_eq_true', Bool.not_eq_false', beq_iff_eq, beq_eq_false_iff_ne, bne_iff_ne, bne_eq_false_iff_eq] at h) <;> (first | (exfalso; first | omega | exact h trivial) | (conv => whnf))) | fail)
        exact count_next () hk (by rw [wrap_succ hk (by omega), elsOf_succ s up hk, putAll_app, ← h3]; rfl) trivial
    · intro _ _
      rw [List.take_length]
      have hml : (susM s down up).es.length ≤ 1000000 := by
        have h1 := putAll_len (b := false) (elsOf s up) (putAll SM.nil (elsOf s down) true)
        have h2 := putAll_len (b := true) (elsOf s down) (SM.nil : MB)
        have h3 := elsOf_len hs hd.has
        have h4 := elsOf_len hs hu.has
        have h5 : (SM.nil : MB).es.length = 0 := rfl
        unfold susM; omega
      conv => whnf
      repeat' (first | (refine CondG.mk (fun h => ?_) (fun h => ?_) <;> (try simp only [decide_eq_true_eq, decide_eq_false_iff_not, Bool.not_eq_true', Bool.not_eq_false', beq_iff_eq, beq_eq_false_iff_ne, bne_iff_ne, bne_eq_false_iff_eq] at h) <;> (first | (exfalso; first | omega | exact h trivial) | (conv => whnf))) | (refine  CallX.mk _ _ (by exact fRising_pc (susM s down up) (susM_ok ..) hml) ?_; conv => whnf) | fail)
      first
        | exact .mk ⟨rfl, rfl⟩
        | exact .weak [] (.refl _) rfl (Nat.le_refl _)
        | exact .weak [_] (.refl _) rfl (Nat.le_refl _)
set_option maxRecDepth 100000 in
set_option maxHeartbeats 4000000 in
theorem fHas_pc {l : List ByteArray} (h : Rise id l) (hl : l.length ≤ 1000000) (t : ByteArray) : PCp 128 [.c (.lst 1 (l.map encS)), .c (.str t)] [] (.c (.bool (decide (t ∈ l)))) [] := by
  refine fn_sound (mt := mts) tab_fits tab_mixed Tryz.func128 (by rfl) (by kernel_rfl) (by kernel_rfl) Tryz.results128 (Nat.le_of_ble_eq_true (by kernel_rfl)) ?_
  conv => whnf
  repeat' (first | (refine  CallX.mk _ _ (by exact binG_pc h hl t) ?_; conv => whnf) | fail)
  exact finb rfl
set_option maxRecDepth 100000 in
set_option maxHeartbeats 4000000 in
theorem ixU_pc (cs : List (List V)) (g : Nat) (p : ByteArray → Bool) (l : List ByteArray) (hl : l.length ≤ 1000000) (hg : ∀ x ∈ l, PCp g [.c (.str x), .c (.ptr 0 0)] [.box [.lst 1 cs]] (.c (.bool (p x))) [.box [.lst 1 cs]]) : PCp 164 [.c (.lst 1 (l.map encS)), .c (.fn g [.ptr 0 0])] [.box [.lst 1 cs]] (.c (.int .i64 (idxP p l))) [.box [.lst 1 cs]] := by
  have hlm : (l.map encS).length = l.length := List.length_map ..
  refine fn_sound (mt := mts) tab_fits tab_mixed Tryz.func164 (by rfl) (by kernel_rfl) (by kernel_rfl) Tryz.results164 (Nat.le_of_ble_eq_true (by kernel_rfl)) ?_
  conv => whnf
  refine loop_count (l.length) [] [0, 1, 7, 8] (fun k (_ : Unit) => ⟨[(0, .c (.lst 1 (l.map encS))), (1, .c (.fn g [.ptr 0 0])), (7, .c (.int .i64 (l.map encS).length)), (8, .c (.int .i64 k))], [(0, .box [.lst 1 cs])], 1⟩) (fun k (_ : Unit) => ∀ i (hi : i < l.length), i < k → p l[i] = false) (()) ?_ ?_ ?_
  · conv => whnf
    exact ⟨rfl, by intro i hi h; omega⟩
  · intro k _ hk hi
    conv => whnf
    repeat' (first | (refine CondG.mk (fun h => ?_) (fun h => ?_) <;> (try simp only [decide_eq_true_eq, decide_eq_false_iff_not, Bool.not_eq_true', Bool.not_eq_false', beq_iff_eq, beq_eq_false_iff_ne, bne_iff_ne, bne_eq_false_iff_eq] at h) <;> (first | (exfalso; first | omega | exact h trivial) | (conv => whnf))) | (refine  CallX.mk _ _ (by exact hg l[k] (List.getElem_mem hk)) ?_; conv => whnf) | (refine idx_at _ (by with_reducible rfl) (by first | assumption | omega) ?_; conv => whnf) | fail)
    · exact .mk ⟨by rw [idxP_hit hk (fun i hi' => hi i (by omega) hi') h]; rfl, rfl⟩
    · refine count_next () hk (by rw [wrap_succ hk (by omega)]; rfl) ?_
      exact all_succ' hi h
  · intro _ hi
    conv => whnf
    repeat' (first | (refine CondG.mk (fun h => ?_) (fun h => ?_) <;> (try simp only [decide_eq_true_eq, decide_eq_false_iff_not, Bool.not_eq_true', Bool.not_eq_false', beq_iff_eq, beq_eq_false_iff_ne] at h) <;> (first | (exfalso; first | omega | exact h trivial) | (conv => whnf))) | fail)
    exact .mk ⟨by rw [idxP_miss (fun i h => hi i h h)]; rfl, rfl⟩
set_option maxRecDepth 100000 in
set_option maxHeartbeats 4000000 in
theorem ixUC_pc (cs : List (List V)) (g : Nat) (p : ByteArray → Bool) (l : List ByteArray) (hl : l.length ≤ 1000000) (hg : ∀ x ∈ l, PCp g [.c (.str x), .c (.ptr 0 0)] [.box [.lst 1 cs]] (.c (.bool (p x))) [.box [.lst 1 cs]]) : PCp 126 [.c (.lst 1 (l.map encS)), .c (.fn g [.ptr 0 0])] [.box [.lst 1 cs]] (.c (.bool (l.any p))) [.box [.lst 1 cs]] := by
  refine fn_sound (mt := mts) tab_fits tab_mixed Tryz.func126 (by rfl) (by kernel_rfl) (by kernel_rfl) Tryz.results126 (Nat.le_of_ble_eq_true (by kernel_rfl)) ?_
  conv => whnf
  repeat' (first | (refine  CallX.mk _ _ (by exact ixU_pc cs g p l hl hg) ?_; conv => whnf) | fail)
  exact .mk ⟨by rw [← idxP_any]; rfl, rfl⟩
set_option maxRecDepth 100000 in
set_option maxHeartbeats 4000000 in
theorem fState1_pc {up : List ByteArray} (h : Rise id up) (hl : up.length ≤ 1000000) (x : ByteArray) : PCp 127 [.c (.str x), .c (.ptr 0 0)] [.box [.lst 1 (up.map encS)]] (.c (.bool (decide (x ∈ up)))) [.box [.lst 1 (up.map encS)]] := by
  refine fn_sound (mt := mts) tab_fits tab_mixed Tryz.func127 (by rfl) (by kernel_rfl) (by kernel_rfl) Tryz.results127 (Nat.le_of_ble_eq_true (by kernel_rfl)) ?_
  conv => whnf
  repeat' (first | (refine  CallX.mk _ _ (by exact fHas_pc h hl x) ?_; conv => whnf) | fail)
  exact .mk ⟨rfl, rfl⟩
set_option maxRecDepth 100000 in
set_option maxHeartbeats 4000000 in
theorem fState_pc (s : List Sv) (hx : ∀ x ∈ s, x.els.length ≤ 1000000) (down up : List ByteArray) : PCp 73 [.c (.lst 3 (s.map encSv)), .c (.lst 1 (down.map encS)), .c (.lst 1 (up.map encS))] [] (.c (.int .i64 (seenErr s down up))) [] := by
  have hdm : (down.map encS).length = down.length := List.length_map ..
  refine fn_sound (mt := mts) tab_fits tab_mixed Tryz.func73 (by rfl) (by kernel_rfl) (by kernel_rfl) Tryz.results73 (Nat.le_of_ble_eq_true (by kernel_rfl)) ?_
  conv => whnf
  repeat' (first | (refine CondG.mk (fun h => ?_) (fun h => ?_) <;> (try simp only [decide_eq_true_eq, decide_eq_false_iff_not, Bool.not_eq_true', Bool.not_eq_false', beq_iff_eq, beq_eq_false_iff_ne, bne_iff_ne, bne_eq_false_iff_eq] at h) <;> (first | (exfalso; first | omega | exact h trivial) | (conv => whnf))) | (refine  CallX.mk _ _ (by exact checkServices_pc s hx) ?_; conv => whnf) | fail)
  · exact fini (by rw [seenErr, if_pos (by assumption)])
  have hs0 : svFault s = 0 := by simp_all
  have hs := svFault_ok hs0
  repeat' (first | (refine CondG.mk (fun h => ?_) (fun h => ?_) <;> (try simp only [decide_eq_true_eq, decide_eq_false_iff_not, Bool.not_eq_true', Bool.not_eq_false', beq_iff_eq, beq_eq_false_iff_ne, bne_iff_ne, bne_eq_false_iff_eq] at h) <;> (first | (exfalso; first | omega | exact h trivial) | (conv => whnf))) | (refine CallG.mk _ _ (by first | exact listFault_pc s hs _ | exact first_pc [_, _] (by simp)) ?_; conv => whnf) | fail)
  · refine fini ?_
    rw [seenErr, if_neg (by simp [hs0])]
    simp only [firstErr] at *
    (repeat' split) <;> first | rfl | omega | (simp_all; done)
  have hf : stErr s down = 0 ∧ stErr s up = 0 := by
    rename_i h
    simp only [firstErr] at h
    by_cases h1 : stErr s down = 0 <;> by_cases h2 : stErr s up = 0 <;> simp_all
  obtain ⟨hd, hu⟩ := hf
  have hdo := stErr_ok hd
  have huo := stErr_ok hu
  have hdl := hdo.len
  have hul := huo.len
  repeat' (first | (refine CondG.mk (fun h => ?_) (fun h => ?_) <;> (try simp only [decide_eq_true_eq, decide_eq_false_iff_not, Bool.not_eq_true', Bool.not_eq_false', beq_iff_eq, beq_eq_false_iff_ne, bne_iff_ne, bne_eq_false_iff_eq] at h) <;> (first | (exfalso; first | omega | exact h trivial) | (conv => whnf))) | (refine  CallX.mk _ _ (by exact ixUC_pc (up.map encS) 127 (fun x => decide (x ∈ up)) down (by omega) (fun x _ => fState1_pc huo.rise (by omega) x)) ?_; conv => whnf) | fail)
  all_goals
    refine fini ?_
    rw [seenErr, if_neg (by simp [hs0]), if_neg (by simp [hd]), if_neg (by simp [hu])]
    simp_all
set_option maxRecDepth 100000 in
set_option maxHeartbeats 4000000 in
theorem suspectsP_pc (s : List Sv) (hx : ∀ x ∈ s, x.els.length ≤ 1000000) (down up : List ByteArray) : PCp 33 [.c (.lst 3 (s.map encSv)), .c (.lst 1 (down.map encS)), .c (.lst 1 (up.map encS))] [] (.tup [.c (.lst 1 ((if seenErr s down up = 0 then susV s down up else []).map encS)), .c (.int .i64 (seenErr s down up))]) [] := by
  refine fn_sound (mt := mts) tab_fits tab_mixed Tryz.func33 (by rfl) (by kernel_rfl) (by kernel_rfl) Tryz.results33 (Nat.le_of_ble_eq_true (by kernel_rfl)) ?_
  conv => whnf
  repeat' (first | (refine CondG.mk (fun h => ?_) (fun h => ?_) <;> (try simp only [decide_eq_true_eq, decide_eq_false_iff_not, Bool.not_eq_true', Bool.not_eq_false', beq_iff_eq, beq_eq_false_iff_ne, bne_iff_ne, bne_eq_false_iff_eq] at h) <;> (first | (exfalso; first | omega | exact h trivial) | (conv => whnf))) | (refine  CallX.mk _ _ (by exact fState_pc s hx down up) ?_; conv => whnf) | fail)
  · rw [if_neg (by assumption)]
    refine .weak [] (.tup _ _ rfl ?_) rfl (Nat.le_refl _)
    intro i a b ha hb
    match i with
    | 0 => cases ha; cases hb; exact .nil 1
    | 1 => cases ha; cases hb; exact .refl _
  · have h0 : seenErr s down up = 0 := by simp_all
    have hs0 : svFault s = 0 := by
      unfold seenErr at h0
      split at h0
      · omega
      · omega
    have hd0 : stErr s down = 0 := by
      unfold seenErr at h0
      rw [if_neg (by omega)] at h0
      split at h0
      · omega
      · omega
    have hu0 : stErr s up = 0 := by
      unfold seenErr at h0
      rw [if_neg (by omega), if_neg (by omega)] at h0
      split at h0
      · omega
      · omega
    rw [if_pos h0]
    repeat' (first | (refine  CallX.mk _ _ (by exact fSuspects_pc s (svFault_ok hs0) down up (stErr_ok hd0) (stErr_ok hu0)) ?_; conv => whnf) | fail)
    exact .mk ⟨by rw [h0]; rfl, rfl⟩
end Go.Proofs.YtbdlhiogjnbhjaaGreat

namespace Go.Proofs.YtbdlhiogjnbhjaaGreat
set_option linter.unusedVariables false
set_option linter.unusedSimpArgs false
open Abs

abbrev MN := SM ByteArray Int
def fl (left : List ByteArray) (x : Sv) : List ByteArray := left.filter fun k => decide (k ∈ x.els)
def gmS (left : List ByteArray) (m : MN) (x : Sv) : MN := match fl left x with | [e] => m.put e (IntKind.i64.wrap ((m.get e).getD 0 + x.cust)) | _ => m
def gm (s : List Sv) (left : List ByteArray) : MN := s.foldl (gmS left) SM.nil
end Go.Proofs.YtbdlhiogjnbhjaaGreat

namespace Go.Proofs.YtbdlhiogjnbhjaaGreat
set_option linter.unusedVariables false
set_option linter.unusedSimpArgs false
open Abs

end Go.Proofs.YtbdlhiogjnbhjaaGreat

namespace Go.Proofs.YtbdlhiogjnbhjaaGreat
set_option linter.unusedVariables false
set_option linter.unusedSimpArgs false
open Abs

theorem toList_inj {a b : ByteArray} (h : a.toList = b.toList) : a = b := by
  rw [ByteArray.toList_eq, ByteArray.toList_eq] at h
  exact ByteArray.ext (Array.toList_inj.1 h)
end Go.Proofs.YtbdlhiogjnbhjaaGreat

namespace Go.Proofs.YtbdlhiogjnbhjaaGreat
set_option linter.unusedVariables false
set_option linter.unusedSimpArgs false
open Abs

end Go.Proofs.YtbdlhiogjnbhjaaGreat

namespace Go.Proofs.YtbdlhiogjnbhjaaGreat
set_option linter.unusedVariables false
set_option linter.unusedSimpArgs false
open Abs

end Go.Proofs.YtbdlhiogjnbhjaaGreat

namespace Go.Proofs.YtbdlhiogjnbhjaaGreat
set_option linter.unusedVariables false
set_option linter.unusedSimpArgs false
open Abs

structure Ac where
  mo : Int
  kd : Int
  drum : ByteArray
  ty : ByteArray
  of : ByteArray
  long : Int
def encAc (x : Ac) : List V := [.int .i64 x.mo, .int .i64 x.kd, .str x.drum, .str x.ty, .str x.of, .int .i64 x.long]
def momB (n : Int) : Bool := decide (0 ≤ n ∧ n ≤ 345686399999)
set_option maxRecDepth 100000 in
set_option maxHeartbeats 4000000 in
theorem bMoment_pc (n : Int) : PCp 134 [.c (.int .i64 n)] [] (.c (.bool (momB n))) [] := by
  refine fn_sound (mt := mts) tab_fits tab_mixed Tryz.func134 (by rfl) (by kernel_rfl) (by kernel_rfl) Tryz.results134 (Nat.le_of_ble_eq_true (by kernel_rfl)) ?_
  conv => whnf
  repeat' (first | (refine  CallX.mk _ _ (by exact bOut_pc _ _ _) ?_; conv => whnf) | fail)
  exact finb (by unfold momB; rw [Bool.eq_iff_iff]; simp; try omega)
def actErr (x : Ac) : Int :=
  if !momB x.mo then 1 else if x.kd < 1 ∨ 4 < x.kd then 4
  else if !keyB x.drum || (x.kd == 1 && !keyB x.ty) || (x.kd == 3 && !keyB x.of) then 5
  else if x.kd ≠ 4 ∧ (x.long < 1 ∨ 200000 < x.long) then 1
  else if (x.kd ≠ 1 ∧ x.ty.toList ≠ (⟨#[]⟩ : ByteArray).toList) ∨ (x.kd ≠ 3 ∧ x.of.toList ≠ (⟨#[]⟩ : ByteArray).toList) ∨ (x.kd = 4 ∧ x.long ≠ 0) then 3 else 0
set_option maxRecDepth 100000 in
set_option maxHeartbeats 4000000 in
theorem dActFault_pc (x : Ac) : PCp 168 [.agg (encAc x)] [] (.c (.int .i64 (actErr x))) [] := by
  refine fn_sound (mt := mts) tab_fits tab_mixed Tryz.func168 (by rfl) (by kernel_rfl) (by kernel_rfl) Tryz.results168 (Nat.le_of_ble_eq_true (by kernel_rfl)) ?_
  conv => whnf
  repeat' (first | (refine .mk (fun h => ?_) (fun h => ?_) <;> (try simp only [decide_eq_true_eq, decide_eq_false_iff_not, Bool.not_eq_true', Bool.not_eq_false', beq_iff_eq, beq_eq_false_iff_ne] at h) <;> (first | (exfalso; first | omega | exact h trivial) | (conv => whnf))) | (refine  CallX.mk _ _ (by first | exact bMoment_pc _ | exact bOut_pc _ _ _ | exact bKey_pc _) ?_; conv => whnf) | fail)
  all_goals refine fini ?_
  all_goals unfold actErr
  all_goals generalize (⟨#[]⟩ : ByteArray).toList = nl at *
  all_goals simp_all
  all_goals omega
def cmpI (a b : Int) : Int := if a < b then -1 else if b < a then 1 else 0
set_option maxRecDepth 100000 in
set_option maxHeartbeats 4000000 in
theorem isNaNI_pc (a : Int) : PCp 161 [.c (.int .i64 a)] [] (.c (.bool false)) [] := by
  refine fn_sound (mt := mts) tab_fits tab_mixed Tryz.func161 (by rfl) (by kernel_rfl) (by kernel_rfl) Tryz.results161 (Nat.le_of_ble_eq_true (by kernel_rfl)) ?_
  conv => whnf
  exact finb (by simp)
set_option maxRecDepth 100000 in
set_option maxHeartbeats 4000000 in
theorem cmpI_pc (a b : Int) : PCp 122 [.c (.int .i64 a), .c (.int .i64 b)] [] (.c (.int .i64 (cmpI a b))) [] := by
  refine fn_sound (mt := mts) tab_fits tab_mixed Tryz.func122 (by rfl) (by kernel_rfl) (by kernel_rfl) Tryz.results122 (Nat.le_of_ble_eq_true (by kernel_rfl)) ?_
  conv => whnf
  repeat' (first | (refine CondG.mk (fun h => ?_) (fun h => ?_) <;> (try simp only [decide_eq_true_eq, decide_eq_false_iff_not, Bool.not_eq_true', Bool.not_eq_false', beq_iff_eq, beq_eq_false_iff_ne] at h) <;> (first | (exfalso; first | omega | exact h trivial) | (conv => whnf))) | (refine  CallX.mk _ _ (by exact isNaNI_pc _) ?_; conv => whnf) | fail)
  all_goals exact fini (by simp_all [cmpI] <;> omega)
set_option maxRecDepth 100000 in
set_option maxHeartbeats 4000000 in
theorem orI_pc (l : List Int) (hl : l.length ≤ 1000000) : PCp 195 [.c (.lst 1 (l.map encI))] [] (.c (.int .i64 (firstErr l))) [] := by
  have hlm : (l.map encI).length = l.length := List.length_map ..
  refine fn_sound (mt := mts) tab_fits tab_mixed Tryz.func195 (by rfl) (by kernel_rfl) (by kernel_rfl) Tryz.results195 (Nat.le_of_ble_eq_true (by kernel_rfl)) ?_
  conv => whnf
  refine loop_count (l.length) [] [3, 6, 7, 8] (fun k (_ : Unit) => ⟨[(3, .c (.int .i64 0)), (6, .c (.lst 1 (l.map encI))), (7, .c (.int .i64 (l.map encI).length)), (8, .c (.int .i64 k))], [], 0⟩) (fun k (_ : Unit) => firstErr (l.drop k) = firstErr l) (()) ?_ ?_ ?_
  · conv => whnf
    exact ⟨rfl, rfl⟩
  · intro k _ hk hi
    rw [drop_cons hk, firstErr] at hi
    conv => whnf
    repeat' (first | (refine CondG.mk (fun h => ?_) (fun h => ?_) <;> (try simp only [decide_eq_true_eq, decide_eq_false_iff_not, Bool.not_eq_true', Bool.not_eq_false', beq_iff_eq, beq_eq_false_iff_ne] at h) <;> (first | (exfalso; first | omega | exact h trivial) | (conv => whnf))) | fail)
    refine idx_map k hk rfl ?_
    conv => whnf
    repeat' (first | (refine CondG.mk (fun h => ?_) (fun h => ?_) <;> (try simp only [decide_eq_true_eq, decide_eq_false_iff_not, Bool.not_eq_true', Bool.not_eq_false', beq_iff_eq, beq_eq_false_iff_ne] at h) <;> (first | (exfalso; first | omega | exact h trivial) | (conv => whnf))) | fail)
    · exact fini (by rw [← hi, if_neg (by simpa using h)])
    · refine count_next () hk (by rw [wrap_succ hk (by omega)]; rfl) ?_
      rw [← hi, if_pos (by simpa using h)]
  · intro _ hi
    rw [List.drop_of_length_le (Nat.le_refl _)] at hi
    conv => whnf
    repeat' (first | (refine CondG.mk (fun h => ?_) (fun h => ?_) <;> (try simp only [decide_eq_true_eq, decide_eq_false_iff_not, Bool.not_eq_true', Bool.not_eq_false', beq_iff_eq, beq_eq_false_iff_ne] at h) <;> (first | (exfalso; first | omega | exact h trivial) | (conv => whnf))) | fail)
    exact fini (by rw [← hi]; rfl)
def timeC (a b : Ac) : Int := firstErr [cmpI a.mo b.mo, cmpS a.drum b.drum, cmpI a.kd b.kd, cmpS a.ty b.ty, cmpS a.of b.of, cmpI a.long b.long]
set_option maxRecDepth 100000 in
set_option maxHeartbeats 4000000 in
theorem byTime_pc (a b : Ac) : PCp 169 [.agg (encAc a), .agg (encAc b)] [] (.c (.int .i64 (timeC a b))) [] := by
  refine fn_sound (mt := mts) tab_fits tab_mixed Tryz.func169 (by rfl) (by kernel_rfl) (by kernel_rfl) Tryz.results169 (Nat.le_of_ble_eq_true (by kernel_rfl)) ?_
  conv => whnf
  repeat' (first | (refine CallG.mk _ _ (by first | exact cmpI_pc _ _ | exact sCompare_pc _ _ | exact orI_pc [cmpI a.mo b.mo, cmpS a.drum b.drum, cmpI a.kd b.kd, cmpS a.ty b.ty, cmpS a.of b.of, cmpI a.long b.long] (by simp)) ?_; conv => whnf) | fail)
  exact fini rfl
def badPrev (p : Option Ac) (x : Ac) : Bool := match p with | none => false | some y => decide (timeC x y ≤ 0)
def actsErr : Option Ac → List Ac → Int
  | _, [] => 0
  | p, x :: r => if actErr x ≠ 0 then actErr x else if badPrev p x = true then 7 else actsErr (some x) r
def prevAt (l : List Ac) (k : Nat) : Option Ac := if k = 0 then none else l[k - 1]?
def actsFault (l : List Ac) : Int := if 2000 < l.length then 2 else actsErr none l
set_option maxRecDepth 100000 in
set_option maxHeartbeats 4000000 in
theorem checkActs_pc (l : List Ac) : PCp 133 [.c (.lst 6 (l.map encAc))] [] (.c (.int .i64 (actsFault l))) [] := by
  have hlm : (l.map encAc).length = l.length := List.length_map ..
  refine fn_sound (mt := mts) tab_fits tab_mixed Tryz.func133 (by rfl) (by kernel_rfl) (by kernel_rfl) Tryz.results133 (Nat.le_of_ble_eq_true (by kernel_rfl)) ?_
  conv => whnf
  repeat' (first | (refine CondG.mk (fun h => ?_) (fun h => ?_) <;> (try simp only [decide_eq_true_eq, decide_eq_false_iff_not, Bool.not_eq_true', Bool.not_eq_false', beq_iff_eq, beq_eq_false_iff_ne] at h) <;> (first | (exfalso; first | omega | exact h trivial) | (conv => whnf))) | fail)
  · exact fini (by rw [actsFault, if_pos (by omega)])
  have hF : actsFault l = actsErr none l := by rw [actsFault, if_neg (by omega)]
  refine loop_count (l.length) [] [0, 9, 10, 11] (fun k (_ : Unit) => ⟨[(0, .c (.lst 6 (l.map encAc))), (9, .c (.lst 6 (l.map encAc))), (10, .c (.int .i64 (l.map encAc).length)), (11, .c (.int .i64 k))], [], 0⟩) (fun k (_ : Unit) => actsErr (prevAt l k) (l.drop k) = actsErr none l) (()) ?_ ?_ ?_
  · conv => whnf
    exact ⟨rfl, rfl⟩
  · intro k _ hk hi
    rw [drop_cons hk, actsErr] at hi
    have hp1 : prevAt l (k + 1) = some l[k] := by simp [prevAt, hk]
    conv => whnf
    repeat' (first | (refine CondG.mk (fun h => ?_) (fun h => ?_) <;> (try simp only [decide_eq_true_eq, decide_eq_false_iff_not, Bool.not_eq_true', Bool.not_eq_false', beq_iff_eq, beq_eq_false_iff_ne] at h) <;> (first | (exfalso; first | omega | exact h trivial) | (conv => whnf))) | fail)
    refine idx_map k hk rfl ?_
    conv => whnf
    repeat' (first | (refine .mk (fun h => ?_) (fun h => ?_) <;> (try simp only [decide_eq_true_eq, decide_eq_false_iff_not, Bool.not_eq_true', Bool.not_eq_false', beq_iff_eq, beq_eq_false_iff_ne] at h) <;> (first | (exfalso; first | omega | exact h trivial) | (conv => whnf))) | (refine  CallX.mk _ _ (by exact dActFault_pc _) ?_; conv => whnf) | fail)
    · have h' : actErr l[k] ≠ 0 := by simpa using h
      rw [if_pos h'] at hi
      exact fini (by rw [hF, ← hi])
    · rename_i h0
      have h' : ¬ actErr l[k] ≠ 0 := by simpa using h0
      rw [if_neg h'] at hi
      have hk1 : IntKind.i64.wrap ((k : Int) - 1) = ((k - 1 : Nat) : Int) := by rw [wrap_in (by omega) (by omega)]; omega
      have hp : prevAt l k = some (l[k - 1]'(by omega)) := by rw [prevAt, if_neg (by omega)]; exact List.getElem?_eq_getElem (by omega)
      rw [hp] at hi
      refine idx_map (k - 1) (by omega) hk1 ?_
      conv => whnf
      repeat' (first | (refine CondG.mk (fun h => ?_) (fun h => ?_) <;> (try simp only [decide_eq_true_eq, decide_eq_false_iff_not, Bool.not_eq_true', Bool.not_eq_false', beq_iff_eq, beq_eq_false_iff_ne] at h) <;> (first | (exfalso; first | omega | exact h trivial) | (conv => whnf))) | (refine CallG.mk _ _ (by exact byTime_pc _ _) ?_; conv => whnf) | fail)
      · skip
        rw [if_pos (by simpa [badPrev] using h)] at hi
        exact fini (by rw [hF, ← hi])
      · skip
        rw [if_neg (by simpa [badPrev] using h)] at hi
        refine count_next () hk (by rw [wrap_succ hk (by omega)]; rfl) ?_
        rw [hp1]; exact hi
    · have h' : ¬ actErr l[k] ≠ 0 := by simp_all
      have h0 : k = 0 := by omega
      subst h0
      rw [if_neg h', if_neg (by simp [badPrev, prevAt])] at hi
      refine count_next () hk (by rw [wrap_succ hk (by omega)]; rfl) ?_
      rw [hp1]; exact hi
  · intro _ hi
    rw [List.drop_of_length_le (Nat.le_refl _)] at hi
    conv => whnf
    repeat' (first | (refine CondG.mk (fun h => ?_) (fun h => ?_) <;> (try simp only [decide_eq_true_eq, decide_eq_false_iff_not, Bool.not_eq_true', Bool.not_eq_false', beq_iff_eq, beq_eq_false_iff_ne] at h) <;> (first | (exfalso; first | omega | exact h trivial) | (conv => whnf))) | fail)
    exact fini (by rw [hF, ← hi]; rfl)

end Go.Proofs.YtbdlhiogjnbhjaaGreat

namespace Go.Proofs.YtbdlhiogjnbhjaaGreat
set_option linter.unusedVariables false
set_option linter.unusedSimpArgs false
open Abs

abbrev stBox : Ob := .box [.mp 1, .mp 2]
set_option maxRecDepth 100000 in
set_option maxHeartbeats 4000000 in
theorem take1_pc (x : Ac) (hk : x.kd = 1) : PCp 170 [.c (.ptr 0 0), .agg (encAc x)] [stBox, .map 0 [], .map 0 []] (.tup [.c (.str x.ty), .c (.int .i64 0)]) [stBox, .map 1 [(0, .c (.str x.drum), .agg [.str x.ty, .int .i64 x.long])], .map 1 [(0, .c (.str x.drum), .c (.str x.ty))]] := by
  refine fn_sound (mt := mts) tab_fits tab_mixed Tryz.func170 (by rfl) (by kernel_rfl) (by kernel_rfl) Tryz.results170 (Nat.le_of_ble_eq_true (by kernel_rfl)) ?_
  conv => whnf
  repeat (refine .mk _ _ (.inr ⟨rfl, rfl, rfl⟩) ?_; conv => whnf)
  repeat' (first | (refine CondG.mk (fun h => ?_) (fun h => ?_) <;> (try simp only [decide_eq_true_eq, decide_eq_false_iff_not, Bool.not_eq_true', Bool.not_eq_false', beq_iff_eq, beq_eq_false_iff_ne] at h) <;> (first | (exfalso; first | omega | exact h trivial) | (conv => whnf))) | fail)
  · cases h
  refine .mk _ _ _ _ (.inr ⟨rfl, rfl, rfl, rfl, rfl⟩) ?_
  conv => whnf
  refine .mk 0 0 _ _ ⟨rfl, rfl, by intro i hi; omega⟩ ?_
  conv => whnf
  refine .mk _ _ _ _ (.inr ⟨rfl, rfl, rfl, rfl, rfl⟩) ?_
  conv => whnf
  refine .mk 0 0 _ _ ⟨rfl, rfl, by intro i hi; omega⟩ ?_
  conv => whnf
  exact .mk ⟨rfl, rfl⟩
abbrev stOne (x : Ac) : List Ob := [stBox, .map 1 [(0, .c (.str x.drum), .agg [.str x.ty, .int .i64 x.long])], .map 1 [(0, .c (.str x.drum), .c (.str x.ty))]]
set_option maxRecDepth 100000 in
set_option maxHeartbeats 4000000 in
theorem at1_pc (x : Ac) (a b : Int) (s : ByteArray) : PCp 136 [.c (.ptr 0 0), .c (.int .i64 a), .c (.str s), .c (.int .i64 b)] (stOne x) (.tup []) (stOne x) := by
  refine fn_sound (mt := mts) tab_fits tab_mixed Tryz.func136 (by rfl) (by kernel_rfl) (by kernel_rfl) Tryz.results136 (Nat.le_of_ble_eq_true (by kernel_rfl)) ?_
  conv => whnf
  exact .mk ⟨rfl, rfl⟩
set_option maxRecDepth 100000 in
set_option maxHeartbeats 4000000 in
theorem follow1_pc (x : Ac) (hk : x.kd = 1) : PCp 135 [.c (.lst 6 [encAc x]), .c (.fn 136 [])] [] (.c (.ptr 0 0)) (stOne x) := by
  refine fn_sound (mt := mts) tab_fits tab_mixed Tryz.func135 (by rfl) (by kernel_rfl) (by kernel_rfl) Tryz.results135 (Nat.le_of_ble_eq_true (by kernel_rfl)) ?_
  conv => whnf
  refine .un 2 ?_
  conv => whnf
  repeat' (first | (refine CondG.mk (fun h => ?_) (fun h => ?_) <;> (try simp only [decide_eq_true_eq, decide_eq_false_iff_not, Bool.not_eq_true', Bool.not_eq_false', beq_iff_eq, beq_eq_false_iff_ne] at h) <;> (first | (exfalso; first | omega | exact h trivial) | (conv => whnf))) | fail)
  rotate_left
  · exact absurd h (by simp)
  refine .mk (encAc x) ⟨by simp, rfl⟩ ?_
  conv => whnf
  repeat' (first | (refine CondG.mk (fun h => ?_) (fun h => ?_) <;> (try simp only [decide_eq_true_eq, decide_eq_false_iff_not, Bool.not_eq_true', Bool.not_eq_false', beq_iff_eq, beq_eq_false_iff_ne] at h) <;> (first | (exfalso; first | omega | exact h trivial) | (conv => whnf))) | (refine  CallX.mk _ _ (by first | exact take1_pc x hk | exact at1_pc x _ _ _) ?_; conv => whnf) | fail)
  · exact absurd h (by show ¬ ((1 : Int) < 1); decide)
  · exact .mk ⟨rfl, rfl⟩
set_option maxRecDepth 100000 in
set_option maxHeartbeats 4000000 in
theorem at_pc (x : Ac) (hk : x.kd = 1) (hx : actErr x = 0) (m : Int) (hm : x.mo ≤ m) (hmm : momB m = true) : PCp 79 [.c (.lst 6 [encAc x]), .c (.int .i64 m)] [] (.tup [.c (.ptr 0 0), .c (.int .i64 0)]) (stOne x) := by
  have hc : actsFault [x] = 0 := by simp [actsFault, actsErr, hx, badPrev]
  refine fn_sound (mt := mts) tab_fits tab_mixed Tryz.func79 (by rfl) (by kernel_rfl) (by kernel_rfl) Tryz.results79 (Nat.le_of_ble_eq_true (by kernel_rfl)) ?_
  conv => whnf
  repeat' (first | (refine CondG.mk (fun h => ?_) (fun h => ?_) <;> (try simp only [decide_eq_true_eq, decide_eq_false_iff_not, Bool.not_eq_true', Bool.not_eq_false', beq_iff_eq, beq_eq_false_iff_ne] at h) <;> (first | (exfalso; first | omega | exact h trivial) | (conv => whnf))) | (refine  CallX.mk _ _ (by first | exact checkActs_pc [x] | exact bMoment_pc _) ?_; conv => whnf) | fail)
  · rw [hc] at h; cases h
  · rw [hmm] at h; cases h
  refine .un 1 ?_
  conv => whnf
  repeat' (first | (refine Split.mk (fun h => ?_) (fun h => ?_) <;> (try simp only [decide_eq_true_eq, decide_eq_false_iff_not, Bool.not_eq_true', Bool.not_eq_false', beq_iff_eq, beq_eq_false_iff_ne] at h) <;> (first | (exfalso; first | omega | exact h trivial) | (conv => whnf))) | (refine .mk (by first | omega | (unfold roomOK; simp [cutRows]; done) | (unfold roomOK; simp [cutRows]; omega)) ?_; conv => whnf) | fail)
  · refine .mk (encAc x) ⟨by show (0 : Int) ≤ 0; decide, rfl⟩ ?_
    conv => whnf
    repeat' (first | (refine CondG.mk (fun h => ?_) (fun h => ?_) <;> (try simp only [decide_eq_true_eq, decide_eq_false_iff_not, Bool.not_eq_true', Bool.not_eq_false', beq_iff_eq, beq_eq_false_iff_ne] at h) <;> (first | (exfalso; first | omega | exact h trivial) | (conv => whnf))) | (refine  CallX.mk _ _ (by exact follow1_pc x hk) ?_; conv => whnf) | (refine .mk (by first | omega | (unfold roomOK; simp [cutRows]; done) | (unfold roomOK; simp [cutRows]; omega)) ?_; conv => whnf) | fail)
    exact .mk ⟨rfl, rfl⟩
  · exact absurd (by simp) h

end Go.Proofs.YtbdlhiogjnbhjaaGreat

namespace Go.Proofs.YtbdlhiogjnbhjaaGreat
set_option linter.unusedVariables false
set_option linter.unusedSimpArgs false
open Abs

set_option maxRecDepth 100000 in
set_option maxHeartbeats 4000000 in
theorem len64_pc : PCp 109 [.c (.int .u64 1)] [] (.c (.int .i64 1)) [] := by
  refine fn_sound (mt := mts) tab_fits tab_mixed Tryz.func109 (by rfl) (by kernel_rfl) (by kernel_rfl) Tryz.results109 (Nat.le_of_ble_eq_true (by kernel_rfl)) ?_
  conv => whnf
  repeat' (first | (refine CondG.mk (fun h => ?_) (fun h => ?_) <;> (try simp only [decide_eq_true_eq, decide_eq_false_iff_not, Bool.not_eq_true', Bool.not_eq_false', beq_iff_eq, beq_eq_false_iff_ne] at h) <;> (first | (exfalso; first | omega | exact h trivial) | (conv => whnf))) | fail)
  all_goals first | (exfalso; revert h; decide) | skip
  refine .mk (by decide +kernel) ?_
  conv => whnf
  exact fini (by decide +kernel)
set_option maxRecDepth 100000 in
set_option maxHeartbeats 4000000 in
theorem len_pc : PCp 61 [.c (.int .u64 1)] [] (.c (.int .i64 1)) [] := by
  refine fn_sound (mt := mts) tab_fits tab_mixed Tryz.func61 (by rfl) (by kernel_rfl) (by kernel_rfl) Tryz.results61 (Nat.le_of_ble_eq_true (by kernel_rfl)) ?_
  conv => whnf
  repeat' (first | (refine  CallX.mk _ _ (by exact len64_pc) ?_; conv => whnf) | fail)
  exact fini rfl
set_option maxRecDepth 100000 in
set_option maxHeartbeats 4000000 in
theorem ins1_pc (r : List V) (g : Nat) : PCp 171 [.c (.row 0), .c (.int .i64 0), .c (.int .i64 1), .c (.fn g [])] [.row 168 3 [r]] (.tup []) [.row 168 3 [r]] := by
  refine fn_sound (mt := mts) tab_fits tab_mixed Tryz.func171 (by rfl) (by kernel_rfl) (by kernel_rfl) Tryz.results171 (Nat.le_of_ble_eq_true (by kernel_rfl)) ?_
  conv => whnf
  refine .un 1 ?_
  conv => whnf
  repeat' (first | (refine CondG.mk (fun h => ?_) (fun h => ?_) <;> (try simp only [decide_eq_true_eq, decide_eq_false_iff_not, Bool.not_eq_true', Bool.not_eq_false', beq_iff_eq, beq_eq_false_iff_ne] at h) <;> (first | (exfalso; first | omega | exact h trivial) | (conv => whnf))) | fail)
  all_goals first | exact .mk ⟨rfl, rfl⟩ | (exfalso; revert h; decide)
set_option maxRecDepth 100000 in
set_option maxHeartbeats 4000000 in
theorem pdq1_pc (r : List V) (g : Nat) : PCp 137 [.c (.row 0), .c (.int .i64 0), .c (.int .i64 1), .c (.int .i64 1), .c (.fn g [])] [.row 168 3 [r]] (.tup []) [.row 168 3 [r]] := by
  refine fn_sound (mt := mts) tab_fits tab_mixed Tryz.func137 (by rfl) (by kernel_rfl) (by kernel_rfl) Tryz.results137 (Nat.le_of_ble_eq_true (by kernel_rfl)) ?_
  conv => whnf
  refine .un 1 ?_
  conv => whnf
  repeat' (first | (refine CondG.mk (fun h => ?_) (fun h => ?_) <;> (try simp only [decide_eq_true_eq, decide_eq_false_iff_not, Bool.not_eq_true', Bool.not_eq_false', beq_iff_eq, beq_eq_false_iff_ne] at h) <;> (first | (exfalso; first | omega | exact h trivial) | (conv => whnf))) | (refine  CallX.mk _ _ (by exact ins1_pc _ _) ?_; conv => whnf) | fail)
  all_goals first | exact .mk ⟨rfl, rfl⟩ | (exfalso; revert h; decide) | (exfalso; rename_i h2; revert h2; decide)
set_option maxRecDepth 100000 in
set_option maxHeartbeats 4000000 in
theorem sort1_pc (r : List V) (g : Nat) : PCp 80 [.c (.row 0), .c (.fn g [])] [.row 168 3 [r]] (.tup []) [.row 168 3 [r]] := by
  refine fn_sound (mt := mts) tab_fits tab_mixed Tryz.func80 (by rfl) (by kernel_rfl) (by kernel_rfl) Tryz.results80 (Nat.le_of_ble_eq_true (by kernel_rfl)) ?_
  conv => whnf
  repeat' (first | (refine  CallX.mk _ _ (by first | exact len_pc | exact pdq1_pc _ _) ?_; conv => whnf) | fail)
  exact .mk ⟨rfl, rfl⟩
set_option maxRecDepth 100000 in
set_option maxHeartbeats 4000000 in
theorem stock_pc (x : Ac) (hk : x.kd = 1) (hx : actErr x = 0) (m : Int) (hm : x.mo ≤ m) (hmm : momB m = true) : PCp 35 [.c (.lst 6 [encAc x]), .c (.int .i64 m)] [] (.tup [.c (.row 0), .c (.int .i64 0)]) [.row 168 3 [[.str x.drum, .str x.ty, .int .i64 x.long]]] := by
  refine fn_sound (mt := mts) tab_fits tab_mixed Tryz.func35 (by rfl) (by kernel_rfl) (by kernel_rfl) Tryz.results35 (Nat.le_of_ble_eq_true (by kernel_rfl)) ?_
  conv => whnf
  repeat' (first | (refine CondG.mk (fun h => ?_) (fun h => ?_) <;> (try simp only [decide_eq_true_eq, decide_eq_false_iff_not, Bool.not_eq_true', Bool.not_eq_false', beq_iff_eq, beq_eq_false_iff_ne] at h) <;> (first | (exfalso; first | omega | exact h trivial) | (conv => whnf))) | (refine  CallX.mk _ _ (by exact at_pc x hk hx m hm hmm) ?_; conv => whnf) | fail)
  · cases h
  refine .un 2 ?_
  conv => whnf
  refine .mk rfl ?_
  conv => whnf
  refine .mk (α := Nat × S × S) (fun e => e) [(0, .c (.str x.drum), .agg [.str x.ty, .int .i64 x.long])] rfl (by intro h; cases h) ?_
  intro e he
  simp only [List.mem_singleton] at he
  subst he
  conv => whnf
  repeat' (first | (refine .mk (by first | omega | (unfold roomOK; simp [cutRows]; done) | (unfold roomOK; simp [cutRows]; omega)) ?_; conv => whnf) | fail)
  refine .mk _ _ rfl ?_
  conv => whnf
  repeat' (first | (refine .mk (by first | omega | (unfold roomOK; simp [cutRows]; done) | (unfold roomOK; simp [cutRows]; omega)) ?_; conv => whnf) | fail)
  refine .mk (α := Nat × S × S) (fun e => e) [] rfl (fun _ => ?_) (by intro e he; cases he)
  conv => whnf
  repeat' (first | (refine  CallX.mk _ _ (by exact sort1_pc _ _) ?_; conv => whnf) | fail)
  exact .mk ⟨rfl, rfl⟩
end Go.Proofs.YtbdlhiogjnbhjaaGreat

namespace Go.Proofs.YtbdlhiogjnbhjaaGreat
set_option linter.unusedVariables false
set_option linter.unusedSimpArgs false
open Abs

end Go.Proofs.YtbdlhiogjnbhjaaGreat

namespace Go.Proofs.YtbdlhiogjnbhjaaGreat
set_option linter.unusedVariables false
set_option linter.unusedSimpArgs false
open Abs

deriving instance DecidableEq for Ac
end Go.Proofs.YtbdlhiogjnbhjaaGreat

namespace Go.Proofs.YtbdlhiogjnbhjaaGreat
set_option linter.unusedVariables false
set_option linter.unusedSimpArgs false
open Abs

end Go.Proofs.YtbdlhiogjnbhjaaGreat

namespace Go.Proofs.YtbdlhiogjnbhjaaGreat
set_option linter.unusedVariables false
set_option linter.unusedSimpArgs false
open Abs

structure Sto where
  d : SM ByteArray (ByteArray × Int)
  k : SM ByteArray ByteArray
structure Sto.ok (s : Sto) : Prop where
  d : s.d.ok
  k : s.k.ok
end Go.Proofs.YtbdlhiogjnbhjaaGreat

namespace Go.Proofs.YtbdlhiogjnbhjaaGreat
set_option linter.unusedVariables false
set_option linter.unusedSimpArgs false
open Abs

end Go.Proofs.YtbdlhiogjnbhjaaGreat

namespace Go.Proofs.YtbdlhiogjnbhjaaGreat
set_option linter.unusedVariables false
set_option linter.unusedSimpArgs false
open Abs

end Go.Proofs.YtbdlhiogjnbhjaaGreat

namespace Go.Proofs.YtbdlhiogjnbhjaaGreat
set_option linter.unusedVariables false
set_option linter.unusedSimpArgs false
open Abs

end Go.Proofs.YtbdlhiogjnbhjaaGreat

namespace Go.Proofs.YtbdlhiogjnbhjaaGreat
set_option linter.unusedVariables false
set_option linter.unusedSimpArgs false
open Abs

structure Rto where
  l : SM ByteArray Int
  k : SM ByteArray ByteArray
structure Rto.ok (s : Rto) : Prop where
  l : s.l.ok
  k : s.k.ok
end Go.Proofs.YtbdlhiogjnbhjaaGreat

namespace Go.Proofs.YtbdlhiogjnbhjaaGreat
set_option linter.unusedVariables false
set_option linter.unusedSimpArgs false
open Abs

end Go.Proofs.YtbdlhiogjnbhjaaGreat

namespace Go.Proofs.YtbdlhiogjnbhjaaGreat
set_option linter.unusedVariables false
set_option linter.unusedSimpArgs false
open Abs

end Go.Proofs.YtbdlhiogjnbhjaaGreat

namespace Go.Proofs.YtbdlhiogjnbhjaaGreat
set_option linter.unusedVariables false
set_option linter.unusedSimpArgs false
open Abs

end Go.Proofs.YtbdlhiogjnbhjaaGreat

namespace Go.Proofs.YtbdlhiogjnbhjaaGreat
set_option linter.unusedVariables false
set_option linter.unusedSimpArgs false
open Abs
end Go.Proofs.YtbdlhiogjnbhjaaGreat

namespace Go.Proofs.YtbdlhiogjnbhjaaGreat
set_option linter.unusedVariables false
set_option linter.unusedSimpArgs false
open Abs

structure Cmp {α : Type} (c : α → α → Int) : Prop where
  anti : ∀ a b, c b a = - c a b
  trans : ∀ a b d, c a b ≤ 0 → c b d ≤ 0 → c a d ≤ 0
theorem Cmp.lt {α : Type} {c : α → α → Int} (h : Cmp c) {a b d : α} (h1 : c a b ≤ 0) (h2 : c b d ≤ 0) (h3 : c a b < 0 ∨ c b d < 0) : c a d < 0 := by
  have h4 := h.trans a b d h1 h2
  rcases Int.lt_or_le (c a d) 0 with h5 | h5
  · exact h5
  · have a1 := h.anti a d
    have a2 := h.anti a b
    have a3 := h.anti b d
    rcases h3 with h3 | h3
    · have := h.trans b d a h2 (by omega); omega
    · have := h.trans d a b (by omega) h1; omega
theorem Cmp.swo {α : Type} {c : α → α → Int} (h : Cmp c) : SWOc c where
  irrefl x := by have := h.anti x x; omega
  trans x y z h1 h2 := h.lt (by omega) (by omega) (.inl h1)
  ntrans x y z h1 h2 := by
    have a1 := h.anti x y
    have a2 := h.anti y z
    have a3 := h.anti x z
    have := h.trans z y x (by omega) (by omega)
    omega
end Go.Proofs.YtbdlhiogjnbhjaaGreat

namespace Go.Proofs.YtbdlhiogjnbhjaaGreat
set_option linter.unusedVariables false
set_option linter.unusedSimpArgs false
open Abs

theorem Nx.grown {F : Nat → Prop} {φ : Nat → Option Value} {w : World} {N : Nat → Prop} {h : Nat → Option Ob} (k : Nat) (os : Array Obj) : Nx F φ w h N [] F φ (Sort.grow (w.drewN k) os) where
  hF _ h := h
  hφ _ _ h := h
  nφ _ _ h := .inl h
  os := rfl
  tape := rfl
  output := rfl
  drawn _ := Nat.le_add_right _ _
  size := by simp [Sort.grow, World.drewN]
  keep b hb hne := (hne (by simp only [Sort.grow, World.drewN]; rw [Array.getElem?_append_left hb])).elim
  nF b h := .inl h
  objs l o h := by simp [chGet] at h
  own l o b h := by simp [chGet] at h
  inj l l' o o' b h := by simp [chGet] at h
end Go.Proofs.YtbdlhiogjnbhjaaGreat

namespace Go.Proofs.YtbdlhiogjnbhjaaGreat
set_option linter.unusedVariables false
set_option linter.unusedSimpArgs false
open Abs

end Go.Proofs.YtbdlhiogjnbhjaaGreat

namespace Go.Proofs.YtbdlhiogjnbhjaaGreat
set_option linter.unusedVariables false
set_option linter.unusedSimpArgs false
open Abs

end Go.Proofs.YtbdlhiogjnbhjaaGreat

namespace Go.Proofs.YtbdlhiogjnbhjaaGreat
set_option linter.unusedVariables false
set_option linter.unusedSimpArgs false
open Abs

end Go.Proofs.YtbdlhiogjnbhjaaGreat

namespace Go.Proofs.YtbdlhiogjnbhjaaGreat
set_option linter.unusedVariables false
set_option linter.unusedSimpArgs false
open Abs

theorem u64N {n : Nat} (h : n < 18446744073709551616) : IntKind.u64.wrap (n : Int) = (n : Int) := IntWalk.u64_in _ ⟨by omega, by omega⟩
theorem ofInt_nat (n : Nat) : BitVec.ofInt 64 (n : Int) = BitVec.ofNat 64 n := by
  apply BitVec.eq_of_toNat_eq
  rw [BitVec.toNat_ofInt, BitVec.toNat_ofNat]
  omega
theorem bits_and {a b : Nat} (ha : a < 18446744073709551616) (hb : b < 18446744073709551616) : bitsV .and .u64 (a : Int) (b : Int) = ((a &&& b : Nat) : Int) := by
  have h1 : (BitVec.ofInt 64 (a : Int) &&& BitVec.ofInt 64 (b : Int)).toNat = a &&& b := by
    rw [ofInt_nat, ofInt_nat, BitVec.toNat_and, BitVec.toNat_ofNat, BitVec.toNat_ofNat, Nat.mod_eq_of_lt (by simpa using ha), Nat.mod_eq_of_lt (by simpa using hb)]
  have h2 : a &&& b ≤ a := Nat.and_le_left
  show IntKind.u64.wrap (((BitVec.ofInt 64 (a : Int) &&& BitVec.ofInt 64 (b : Int)).toNat : Nat) : Int) = _
  rw [h1, u64N (by omega)]
theorem shN (x d : Nat) (si : Int) (h : (2 : Int) ^ (min si.toNat IntKind.u64.bits) = (d : Int)) : shV .shr .u64 (x : Int) si = ((x / d : Nat) : Int) := by
  show (x : Int).fdiv _ = _
  rw [h, Int.ofNat_fdiv]
end Go.Proofs.YtbdlhiogjnbhjaaGreat

namespace Go.Proofs.YtbdlhiogjnbhjaaGreat
set_option linter.unusedVariables false
set_option linter.unusedSimpArgs false
open Abs

def lowF : Nat → Nat → Nat
  | 0, _ => 0
  | n + 1, m => if m % 2 = 1 then 0 else lowF n (m / 2) + 1
def low (m : Nat) : Nat := lowF 14 m
def LowLt (a b : Nat) : Prop := ∃ i, a.testBit i = true ∧ b.testBit i = false ∧ ∀ j, j < i → a.testBit j = b.testBit j
theorem LowLt.trans {a b c : Nat} (h1 : LowLt a b) (h2 : LowLt b c) : LowLt a c := by
  obtain ⟨i, a1, a2, a3⟩ := h1
  obtain ⟨k, b1, b2, b3⟩ := h2
  rcases Nat.lt_trichotomy i k with h | h | h
  · exact ⟨i, a1, by rw [← b3 i h]; exact a2, fun j hj => by rw [a3 j hj, b3 j (by omega)]⟩
  · subst h; rw [a2] at b1; cases b1
  · exact ⟨k, by rw [a3 k h]; exact b1, b2, fun j hj => by rw [a3 j (by omega), b3 j hj]⟩
end Go.Proofs.YtbdlhiogjnbhjaaGreat

namespace Go.Proofs.YtbdlhiogjnbhjaaGreat
set_option linter.unusedVariables false
set_option linter.unusedSimpArgs false
open Abs

def o1 (x : Nat) : Nat := (x / 2 &&& 6148914691236517205) + (x &&& 6148914691236517205)
def o2 (x : Nat) : Nat := (x / 4 &&& 3689348814741910323) + (x &&& 3689348814741910323)
def o3 (x : Nat) : Nat := (x / 16 + x) &&& 1085102592571150095
theorem o1_lt (x : Nat) : o1 x ≤ 2 * x := by
  have h1 : x / 2 &&& 6148914691236517205 ≤ x / 2 := Nat.and_le_left
  have h2 : x &&& 6148914691236517205 ≤ x := Nat.and_le_left
  unfold o1; omega
theorem o2_lt (x : Nat) : o2 x ≤ 2 * x := by
  have h1 : x / 4 &&& 3689348814741910323 ≤ x / 4 := Nat.and_le_left
  have h2 : x &&& 3689348814741910323 ≤ x := Nat.and_le_left
  unfold o2; omega
theorem i1 (x : Nat) (h : x < 1099511627776) : IntKind.u64.wrap (bitsV .and .u64 (shV .shr .u64 (x : Int) 1) 6148914691236517205 + bitsV .and .u64 (x : Int) 6148914691236517205) = ((o1 x : Nat) : Int) := by
  have h1 := bits_and (a := x / 2) (b := 6148914691236517205) (by omega) (by decide)
  have h2 := bits_and (a := x) (b := 6148914691236517205) (by omega) (by decide)
  have h3 := o1_lt x
  rw [shN x 2 1 (by decide)]
  exact (congr (congrArg (fun a b : Int => IntKind.u64.wrap (a + b)) h1) h2).trans (u64N (n := o1 x) (by omega))
theorem i2 (x : Nat) (h : x < 1099511627776) : IntKind.u64.wrap (bitsV .and .u64 (shV .shr .u64 (x : Int) 2) 3689348814741910323 + bitsV .and .u64 (x : Int) 3689348814741910323) = ((o2 x : Nat) : Int) := by
  have h1 := bits_and (a := x / 4) (b := 3689348814741910323) (by omega) (by decide)
  have h2 := bits_and (a := x) (b := 3689348814741910323) (by omega) (by decide)
  have h3 := o2_lt x
  rw [shN x 4 2 (by decide)]
  exact (congr (congrArg (fun a b : Int => IntKind.u64.wrap (a + b)) h1) h2).trans (u64N (n := o2 x) (by omega))
end Go.Proofs.YtbdlhiogjnbhjaaGreat

namespace Go.Proofs.YtbdlhiogjnbhjaaGreat
set_option linter.unusedVariables false
set_option linter.unusedSimpArgs false
open Abs

end Go.Proofs.YtbdlhiogjnbhjaaGreat

namespace Go.Proofs.YtbdlhiogjnbhjaaGreat
set_option linter.unusedVariables false
set_option linter.unusedSimpArgs false
open Abs

end Go.Proofs.YtbdlhiogjnbhjaaGreat

namespace Go.Proofs.YtbdlhiogjnbhjaaGreat
set_option linter.unusedVariables false
set_option linter.unusedSimpArgs false
open Abs

end Go.Proofs.YtbdlhiogjnbhjaaGreat

namespace Go.Proofs.YtbdlhiogjnbhjaaGreat
set_option linter.unusedVariables false
set_option linter.unusedSimpArgs false
open Abs

end Go.Proofs.YtbdlhiogjnbhjaaGreat

namespace Go.Proofs.YtbdlhiogjnbhjaaGreat
set_option linter.unusedVariables false
set_option linter.unusedSimpArgs false
open Abs

end Go.Proofs.YtbdlhiogjnbhjaaGreat

namespace Go.Proofs.YtbdlhiogjnbhjaaGreat
set_option linter.unusedVariables false
set_option linter.unusedSimpArgs false
open Abs

end Go.Proofs.YtbdlhiogjnbhjaaGreat

namespace Go.Proofs.YtbdlhiogjnbhjaaGreat
set_option linter.unusedVariables false
set_option linter.unusedSimpArgs false
open Abs

end Go.Proofs.YtbdlhiogjnbhjaaGreat

namespace Go.Proofs.YtbdlhiogjnbhjaaGreat
set_option linter.unusedVariables false
set_option linter.unusedSimpArgs false
open Abs

end Go.Proofs.YtbdlhiogjnbhjaaGreat

namespace Go.Proofs.YtbdlhiogjnbhjaaGreat
set_option linter.unusedVariables false
set_option linter.unusedSimpArgs false
open Abs

end Go.Proofs.YtbdlhiogjnbhjaaGreat

namespace Go.Proofs.YtbdlhiogjnbhjaaGreat
set_option linter.unusedVariables false
set_option linter.unusedSimpArgs false
open Abs

end Go.Proofs.YtbdlhiogjnbhjaaGreat

namespace Go.Proofs.YtbdlhiogjnbhjaaGreat
set_option linter.unusedVariables false
set_option linter.unusedSimpArgs false
open Abs

end Go.Proofs.YtbdlhiogjnbhjaaGreat

namespace Go.Proofs.YtbdlhiogjnbhjaaGreat
set_option linter.unusedVariables false
set_option linter.unusedSimpArgs false
open Abs

end Go.Proofs.YtbdlhiogjnbhjaaGreat

namespace Go.Proofs.YtbdlhiogjnbhjaaGreat
set_option linter.unusedVariables false
set_option linter.unusedSimpArgs false
open Abs

end Go.Proofs.YtbdlhiogjnbhjaaGreat

namespace Go.Proofs.YtbdlhiogjnbhjaaGreat
set_option linter.unusedVariables false
set_option linter.unusedSimpArgs false
open Abs

theorem flat_len {α : Type} {n : Nat} : ∀ {L : List (List α)}, (∀ q ∈ L, q.length ≤ n) → L.flatten.length ≤ n * L.length
  | [], _ => by simp
  | a :: r, h => by
    have ih := flat_len (n := n) (L := r) (fun q hq => h q (by simp [hq]))
    have := h a (by simp)
    simp only [List.flatten_cons, List.length_append, List.length_cons, Nat.mul_succ]; omega
end Go.Proofs.YtbdlhiogjnbhjaaGreat

namespace Go.Proofs.YtbdlhiogjnbhjaaGreat
set_option linter.unusedVariables false
set_option linter.unusedSimpArgs false
open Abs

section
variable {s : List Sv} {down up : List ByteArray}
end
end Go.Proofs.YtbdlhiogjnbhjaaGreat

namespace Go.Proofs.YtbdlhiogjnbhjaaGreat
set_option linter.unusedVariables false
set_option linter.unusedSimpArgs false
open Abs

section
variable {s : List Sv} {b : List ByteArray}
end
end Go.Proofs.YtbdlhiogjnbhjaaGreat

namespace Go.Proofs.YtbdlhiogjnbhjaaGreat
set_option linter.unusedVariables false
set_option linter.unusedSimpArgs false
open Abs

set_option maxRecDepth 100000 in
set_option maxHeartbeats 4000000 in
theorem rDuctsFault_pc (d : List Du) : PCp 43 [.c (.lst 5 (d.map encDu))] [] (.c (.int .i64 (duFault d))) [] := by
  have hlm : (d.map encDu).length = d.length := List.length_map ..
  refine fn_sound (mt := mts) tab_fits tab_mixed Tryz.func43 (by rfl) (by kernel_rfl) (by kernel_rfl) Tryz.results43 (Nat.le_of_ble_eq_true (by kernel_rfl)) ?_
  conv => whnf
  repeat' (first | (refine CondG.mk (fun h => ?_) (fun h => ?_) <;> (try simp only [decide_eq_true_eq, decide_eq_false_iff_not, Bool.not_eq_true', Bool.not_eq_false', beq_iff_eq, beq_eq_false_iff_ne, bne_iff_ne, bne_eq_false_iff_eq] at h) <;> (first | (exfalso; first | omega | exact h trivial) | (conv => whnf))) | fail)
  · exact fini (by rw [duFault, if_pos (by omega)])
  have hF : duFault d = seqErr duErr Du.key false ⟨#[]⟩ d := by rw [duFault, if_neg (by omega), seqErr_first duErr_first]
  refine loop_for (d.length) [] [3, 9, 10, 11] (fun k (_ : Unit) => [(3, .c (.str (befK Du.key d k))), (11, .c (.int .i64 (k : Int)))]) (fun k (_ : Unit) => []) (fun k (_ : Unit) => seqErr duErr Du.key false (befK Du.key d k) (d.drop k) = duFault d) (()) ?_
  conv => whnf
  refine ⟨(by first | rfl | (simp; done) | (simp; rfl)), ?_, ?_, ?_⟩
  · exact hF.symm
  · intro k _ hk hi
    conv => whnf
    repeat' (first | (refine .mk (fun h => ?_) (fun h => ?_) <;> (try simp only [decide_eq_true_eq, decide_eq_false_iff_not, Bool.not_eq_true', Bool.not_eq_false', beq_iff_eq, beq_eq_false_iff_ne, bne_iff_ne, bne_eq_false_iff_eq] at h) <;> (first | (exfalso; first | omega | exact h trivial) | (conv => whnf))) | (refine  CallX.mk _ _ (by first | exact rKey_pc _ | exact rIn_pc _ _ _) ?_; conv => whnf) | (refine idx_at _ (by with_reducible rfl) (by first | assumption | omega) ?_; conv => whnf) | fail)
    all_goals try simp only [toList_eq'] at *
    all_goals first
      | (refine fini (seq_hit hk hi ?_ (by decide)); clear hi hF; unfold duErr; (repeat' split) <;> first | rfl | (exfalso; first | omega | (simp_all [leB, toList_eq']; done) | (simp_all [leB, toList_eq']; omega)))
      | (refine count_next () hk (by rw [wrap_succ hk (by omega), befK_succ hk]; rfl) (by rw [befK_succ hk]; refine seq_next hk hi ?_; clear hi hF; unfold duErr; (repeat' split) <;> first | rfl | (exfalso; first | omega | (simp_all [leB, toList_eq']; done) | (simp_all [leB, toList_eq']; omega))))
  · intro _ hi
    conv => whnf
    repeat' (first | (refine CondG.mk (fun h => ?_) (fun h => ?_) <;> (try simp only [decide_eq_true_eq, decide_eq_false_iff_not, Bool.not_eq_true', Bool.not_eq_false', beq_iff_eq, beq_eq_false_iff_ne, bne_iff_ne, bne_eq_false_iff_eq] at h) <;> (first | (exfalso; first | omega | exact h trivial) | (conv => whnf))) | fail)
    exact fini (seq_end hi).symm
set_option maxRecDepth 100000 in
set_option maxHeartbeats 4000000 in
theorem find1_pc (x : Du) (k : ByteArray) : PCp 141 [.agg (encDu x), .c (.str k)] [] (.c (.int .i64 (cmpS x.key k))) [] := by
  refine fn_sound (mt := mts) tab_fits tab_mixed Tryz.func141 (by rfl) (by kernel_rfl) (by kernel_rfl) Tryz.results141 (Nat.le_of_ble_eq_true (by kernel_rfl)) ?_
  conv => whnf
  repeat' (first | (refine  CallX.mk _ _ (by exact sCompare_pc _ _) ?_; conv => whnf) | fail)
  exact fini rfl
set_option maxRecDepth 100000 in
set_option maxHeartbeats 4000000 in
theorem find_pc (d : List Du) (hd : DuOk d) (k : ByteArray) : PCp 88 [.c (.lst 5 (d.map encDu)), .c (.str k)] [] (.tup [.agg (encDu (duG d k)), .c (.bool (hasD d k))]) [] := by
  have hlm : (d.map encDu).length = d.length := List.length_map ..
  have hc : ∀ x : Du, (cmpS x.key k < 0 ↔ ltB x.key k = true) ∧ (cmpS x.key k = 0 ↔ x.key = k) := fun x => ⟨cmp_lt, cmp_zero⟩
  have hf := find_rise (c := fun x : Du => cmpS x.key k) hc hd.rise
  have hl := hd.len
  refine fn_sound (mt := mts) tab_fits tab_mixed Tryz.func88 (by rfl) (by kernel_rfl) (by kernel_rfl) Tryz.results88 (Nat.le_of_ble_eq_true (by kernel_rfl)) ?_
  conv => whnf
  repeat' (first | (refine CondG.mk (fun h => ?_) (fun h => ?_) <;> (try simp only [decide_eq_true_eq, decide_eq_false_iff_not, Bool.not_eq_true', Bool.not_eq_false', beq_iff_eq, beq_eq_false_iff_ne, bne_iff_ne, bne_eq_false_iff_eq] at h) <;> (first | (exfalso; first | omega | exact h trivial) | (conv => whnf))) | (refine  CallX.mk _ _ (by exact bsDu_pc 141 (fun x => cmpS x.key k) (.c (.str k)) d (by omega) (rise_mono (fun x => cmp_lt) hd.rise) ⟨_, rfl⟩ (fun x _ => find1_pc x k)) ?_; conv => whnf) | fail)
  · have hn : duAt d k = none := by unfold duAt; rw [hf, h]; rfl
    exact .mk ⟨by unfold duG hasD; rw [hn]; rfl, rfl⟩
  · have hlt : cntL (fun x : Du => cmpS x.key k) d < d.length := by
      rcases Nat.lt_or_ge (cntL (fun x : Du => cmpS x.key k) d) d.length with h1 | h1
      · exact h1
      · unfold hitL at h; rw [List.getElem?_eq_none h1] at h; cases h
    have hn : duAt d k = some (d[cntL (fun x : Du => cmpS x.key k) d]) := by unfold duAt; rw [hf, if_pos h, List.getElem?_eq_getElem hlt]
    refine idx_map _ hlt rfl ?_
    conv => whnf
    exact .mk ⟨by unfold duG hasD; rw [hn]; rfl, rfl⟩
set_option maxRecDepth 100000 in
set_option maxHeartbeats 4000000 in
theorem ductAt1_pc (x : Du) (k : ByteArray) : PCp 85 [.agg (encDu x), .c (.ptr 0 0)] [.box [.str k]] (.c (.bool (decide (x.key = k)))) [.box [.str k]] := by
  refine fn_sound (mt := mts) tab_fits tab_mixed Tryz.func85 (by rfl) (by kernel_rfl) (by kernel_rfl) Tryz.results85 (Nat.le_of_ble_eq_true (by kernel_rfl)) ?_
  conv => whnf
  skip
  exact .mk ⟨by rw [beqL]; rfl, rfl⟩
set_option maxRecDepth 100000 in
set_option maxHeartbeats 4000000 in
theorem ductAt_pc (d : List Du) (hl : d.length ≤ 1000000) (k : ByteArray) : PCp 46 [.c (.lst 5 (d.map encDu)), .c (.str k)] [] (.tup [.agg (encDu (duG d k)), .c (.bool (hasD d k))]) [] := by
  have hlm : (d.map encDu).length = d.length := List.length_map ..
  have hf : duAt d k = d[d.findIdx fun x => decide (x.key = k)]? := find_idx _ d
  have hi : 0 ≤ idxP (fun x : Du => decide (x.key = k)) d ↔ (d.any fun x => decide (x.key = k)) = true := by
    rw [← idxP_any, decide_eq_true_eq]
  refine fn_sound (mt := mts) tab_fits tab_mixed Tryz.func46 (by rfl) (by kernel_rfl) (by kernel_rfl) Tryz.results46 (Nat.le_of_ble_eq_true (by kernel_rfl)) ?_
  conv => whnf
  repeat' (first | (refine CondG.mk (fun h => ?_) (fun h => ?_) <;> (try simp only [decide_eq_true_eq, decide_eq_false_iff_not, Bool.not_eq_true', Bool.not_eq_false', beq_iff_eq, beq_eq_false_iff_ne, bne_iff_ne, bne_eq_false_iff_eq] at h) <;> (first | (exfalso; first | omega | exact h trivial) | (conv => whnf))) | (refine  CallX.mk _ _ (by exact ixDuK_pc k 85 (fun x => decide (x.key = k)) d hl (fun x _ => ductAt1_pc x k)) ?_; conv => whnf) | fail)
  · have hn : duAt d k = none := by
      cases h1 : duAt d k with
      | none => rfl
      | some x =>
        have h2 := duAt_some h1
        have h3 := hi.2 (List.any_eq_true.2 ⟨x, h2.1, by simpa using h2.2⟩)
        omega
    exact .mk ⟨by unfold duG hasD; rw [hn]; rfl, rfl⟩
  · have h1 := hi.1 (by omega)
    have h2 : idxP (fun x : Du => decide (x.key = k)) d = (d.findIdx fun x => decide (x.key = k) : Nat) := by rw [idxP, if_pos h1]
    have hlt : (d.findIdx fun x => decide (x.key = k)) < d.length := by
      rw [List.findIdx_lt_length]; rw [List.any_eq_true] at h1; obtain ⟨x, hx, h3⟩ := h1; exact ⟨x, hx, h3⟩
    rw [List.getElem?_eq_getElem hlt] at hf
    refine idx_map _ hlt h2 ?_
    conv => whnf
    exact .mk ⟨by unfold duG hasD; rw [hf]; rfl, rfl⟩
set_option maxRecDepth 100000 in
set_option maxHeartbeats 4000000 in
theorem cableFault_pc (d : List Du) (hd : DuOk d) (x : Ly) (hx : x.ducts.length ≤ 1000000) : PCp 51 [.c (.lst 5 (d.map encDu)), .agg (encLy x)] [] (.c (.int .i64 (cabErr d x))) [] := by
  have hlm : (x.ducts.map encS).length = x.ducts.length := List.length_map ..
  refine fn_sound (mt := mts) tab_fits tab_mixed Tryz.func51 (by rfl) (by kernel_rfl) (by kernel_rfl) Tryz.results51 (Nat.le_of_ble_eq_true (by kernel_rfl)) ?_
  conv => whnf
  repeat' (first | (refine CondG.mk (fun h => ?_) (fun h => ?_) <;> (try simp only [decide_eq_true_eq, decide_eq_false_iff_not, Bool.not_eq_true', Bool.not_eq_false', beq_iff_eq, beq_eq_false_iff_ne, bne_iff_ne, bne_eq_false_iff_eq] at h) <;> (first | (exfalso; first | omega | exact h trivial) | (conv => whnf))) | (refine  CallX.mk _ _ (by exact bOut_pc _ _ _) ?_; conv => whnf) | fail)
  · exact fini (by rw [cabErr, if_pos h])
  · exact fini (by rw [cabErr, if_neg (by assumption), if_pos (by omega)])
  · exact fini (by rw [cabErr, if_neg (by assumption), if_neg (by omega), if_pos (by omega)])
  have hF : cabErr d x = seqErr (keyErr (hasD d)) id true ⟨#[]⟩ x.ducts := by rw [cabErr, if_neg (by assumption), if_neg (by omega), if_neg (by omega)]
  refine loop_for (x.ducts.length) [] [0, 3, 24, 25, 26] (fun k (_ : Unit) => [(26, .c (.int .i64 (k : Int)))]) (fun k (_ : Unit) => []) (fun k (_ : Unit) => seqErr (keyErr (hasD d)) id (decide (k = 0)) (befK id x.ducts k) (x.ducts.drop k) = cabErr d x) (()) ?_
  conv => whnf
  refine ⟨(by first | rfl | (simp; done) | (simp; rfl)), ?_, ?_, ?_⟩
  · exact hF.symm
  · intro k _ hk hi
    conv => whnf
    repeat' (first | (refine .mk (fun h => ?_) (fun h => ?_) <;> (try simp only [decide_eq_true_eq, decide_eq_false_iff_not, Bool.not_eq_true', Bool.not_eq_false', beq_iff_eq, beq_eq_false_iff_ne, bne_iff_ne, bne_eq_false_iff_eq] at h) <;> (first | (exfalso; first | omega | exact h trivial) | (conv => whnf))) | (refine  CallX.mk _ _ (by exact find_pc d hd _) ?_; conv => whnf) | (refine idx_at _ (by with_reducible rfl) (by first | assumption | omega) ?_; conv => whnf) | ((refine idx_map (k - 1) (by omega) (by rw [wrap_in (by omega) (by omega)]; omega) ?_); conv => whnf) | fail)
    all_goals try simp only [toList_eq'] at *
    all_goals have hb := befK_pos (key := id) (l := x.ducts) (Nat.le_of_lt hk)
    all_goals first
      | (refine fini (seq_hit hk hi ?_ (by decide)); clear hi hF; unfold keyErr; (try rw [hb (by omega)]); (repeat' split) <;> first | rfl | (exfalso; first | omega | (simp_all [leB, toList_eq']; done) | (simp_all [leB, toList_eq']; omega)))
      | (refine count_next () hk (by rw [wrap_succ hk (by omega)]; rfl) (seq_next' hk hi ?_); clear hi hF; unfold keyErr; (try rw [hb (by omega)]); (repeat' split) <;> first | rfl | (exfalso; first | omega | (simp_all [leB, toList_eq']; done) | (simp_all [leB, toList_eq']; omega)))
  · intro _ hi
    conv => whnf
    repeat' (first | (refine CondG.mk (fun h => ?_) (fun h => ?_) <;> (try simp only [decide_eq_true_eq, decide_eq_false_iff_not, Bool.not_eq_true', Bool.not_eq_false', beq_iff_eq, beq_eq_false_iff_ne, bne_iff_ne, bne_eq_false_iff_eq] at h) <;> (first | (exfalso; first | omega | exact h trivial) | (conv => whnf))) | fail)
    exact fini (seq_end hi).symm
end Go.Proofs.YtbdlhiogjnbhjaaGreat

namespace Go.Proofs.YtbdlhiogjnbhjaaGreat
set_option linter.unusedVariables false
set_option linter.unusedSimpArgs false
open Abs

structure CntOk (m : SM ByteArray Int) (ks : List ByteArray) : Prop where
  ok : m.ok
  cnt : ∀ k, (m.get k).getD 0 = (ks.count k : Nat)
theorem CntOk.nil : CntOk SM.nil [] := ⟨SM.ok_nil, fun k => by rw [SM.get_nil]; rfl⟩
theorem CntOk.push {m : SM ByteArray Int} {ks : List ByteArray} (h : CntOk m ks) (k : ByteArray) : CntOk (m.put k ((ks.count k + 1 : Nat) : Int)) (ks ++ [k]) := by
  refine ⟨h.ok.put _ _, fun x => ?_⟩
  rw [SM.get_put, List.count_append]
  by_cases e : k = x
  · subst e; simp
  · have : [k].count x = 0 := by rw [List.count_eq_zero]; simpa using fun h => e h.symm
    rw [if_neg e, h.cnt, this]; rfl
set_option maxRecDepth 100000 in
set_option maxHeartbeats 4000000 in
theorem checkLying_pc (d : List Du) (l : List Ly) (hx : ∀ x ∈ l, x.ducts.length ≤ 1000000) : PCp 17 [.c (.lst 5 (d.map encDu)), .c (.lst 3 (l.map encLy))] [] (.c (.int .i64 (lyFault d l))) [] := by
  have hlm : (l.map encLy).length = l.length := List.length_map ..
  refine fn_sound (mt := mts) tab_fits tab_mixed Tryz.func17 (by rfl) (by kernel_rfl) (by kernel_rfl) Tryz.results17 (Nat.le_of_ble_eq_true (by kernel_rfl)) ?_
  conv => whnf
  repeat' (first | (refine CondG.mk (fun h => ?_) (fun h => ?_) <;> (try simp only [decide_eq_true_eq, decide_eq_false_iff_not, Bool.not_eq_true', Bool.not_eq_false', beq_iff_eq, beq_eq_false_iff_ne, bne_iff_ne, bne_eq_false_iff_eq] at h) <;> (first | (exfalso; first | omega | exact h trivial) | (conv => whnf))) | (refine  CallX.mk _ _ (by exact checkDucts_pc d) ?_; conv => whnf) | fail)
  · exact fini (by rw [lyFault, if_pos h])
  · exact fini (by rw [lyFault, if_neg (by simp_all), if_pos (by omega)])
  rename_i hd0
  have hd0 : duFault d = 0 := by simpa using hd0
  have hd := duFault_ok hd0
  have hF : lyFault d l = if lysErr d l ≠ 0 then lysErr d l else if fullL d l then 12 else 0 := by rw [lyFault, if_neg (by simp [hd0]), if_neg (by omega)]
  refine loop_for (l.length) [] [0, 1, 6, 7, 22, 23, 24] (fun k (m : SM ByteArray Int) => [(7, .c (.bool (manyB ((l.take k).flatMap Ly.ducts)))), (24, .c (.int .i64 (k : Int)))]) (fun k (m : SM ByteArray Int) => [(0, smO ekS evI m)]) (fun k (m : SM ByteArray Int) => CntOk m ((l.take k).flatMap Ly.ducts) ∧ ((l.take k).flatMap Ly.ducts).length ≤ 300 * k ∧ seqErr (lyErr d) Ly.cable (decide (k = 0)) (befK Ly.cable l k) (l.drop k) = lysErr d l) (SM.nil) ?_
  conv => whnf
  refine ⟨(by first | rfl | (simp; done) | (simp; rfl)), ?_, ?_, ?_⟩
  · exact ⟨CntOk.nil, by simp, rfl⟩
  · intro k m hk ⟨hm, hn, hi⟩
    have hb := befK_pos (key := Ly.cable) (l := l) (Nat.le_of_lt hk)
    conv => whnf
    repeat' (first | (refine .mk (fun h => ?_) (fun h => ?_) <;> (try simp only [decide_eq_true_eq, decide_eq_false_iff_not, Bool.not_eq_true', Bool.not_eq_false', beq_iff_eq, beq_eq_false_iff_ne, bne_iff_ne, bne_eq_false_iff_eq] at h) <;> (first | (exfalso; first | omega | exact h trivial) | (conv => whnf))) | (refine  CallX.mk _ _ (by first | exact bKey_pc _ | exact cableFault_pc d hd l[k] (hx _ (List.getElem_mem hk))) ?_; conv => whnf) | (refine idx_at _ (by with_reducible rfl) (by first | assumption | omega) ?_; conv => whnf) | ((refine idx_map (k - 1) (by omega) (by rw [wrap_in (by omega) (by omega)]; omega) ?_); conv => whnf) | fail)
    all_goals try simp only [toList_eq'] at *
    all_goals first
      | (have he : lyErr d (decide (k = 0)) (befK Ly.cable l k) l[k] = 5 := by (unfold lyErr; clear hi hF; (try rw [hb (by omega)]); (repeat' split) <;> first | rfl | (exfalso; first | omega | (simp_all [leB, toList_eq']; done) | (simp_all [leB, toList_eq']; omega)))
         have h9 := seq_hit hk hi he (by decide)
         exact fini (by rw [hF, if_pos (by omega)]; exact h9))
      | (have he : lyErr d (decide (k = 0)) (befK Ly.cable l k) l[k] = 7 := by (unfold lyErr; clear hi hF; (try rw [hb (by omega)]); (repeat' split) <;> first | rfl | (exfalso; first | omega | (simp_all [leB, toList_eq']; done) | (simp_all [leB, toList_eq']; omega)))
         have h9 := seq_hit hk hi he (by decide)
         exact fini (by rw [hF, if_pos (by omega)]; exact h9))
      | (have he : lyErr d (decide (k = 0)) (befK Ly.cable l k) l[k] = cabErr d l[k] := by (unfold lyErr; clear hi hF; (try rw [hb (by omega)]); (repeat' split) <;> first | rfl | (exfalso; first | omega | (simp_all [leB, toList_eq']; done) | (simp_all [leB, toList_eq']; omega)))
         have h9 := seq_hit hk hi he (by assumption)
         exact fini (by rw [hF, if_pos (by omega)]; exact h9))
      | skip
    all_goals
      have he : lyErr d (decide (k = 0)) (befK Ly.cable l k) l[k] = 0 := by (unfold lyErr; clear hi hF; (try rw [hb (by omega)]); (repeat' split) <;> first | rfl | assumption | (exfalso; first | omega | (simp_all [leB, toList_eq']; done) | (simp_all [leB, toList_eq']; omega)))
      have hX := (lyErr_ok he).1
      have hxl := hX.len
      have hxm : (l[k].ducts.map encS).length = l[k].ducts.length := List.length_map ..
      have hnx := seq_next' hk hi he
      have hft : (l.take (k + 1)).flatMap Ly.ducts = (l.take k).flatMap Ly.ducts ++ l[k].ducts := by rw [List.take_succ_eq_append_getElem hk, List.flatMap_append, List.flatMap_cons, List.flatMap_nil, List.append_nil]
      generalize (l.take k).flatMap Ly.ducts = A at *
      refine loop_for (l[k].ducts.length) [] [0, 1, 6, 7, 22, 23, 24, 55, 56, 57] (fun j (m' : SM ByteArray Int) => [(7, .c (.bool (manyB (A ++ l[k].ducts.take j)))), (57, .c (.int .i64 (j : Int)))]) (fun j (m' : SM ByteArray Int) => [(0, smO ekS evI m')]) (fun j (m' : SM ByteArray Int) => CntOk m' (A ++ l[k].ducts.take j)) (m) ?_
      conv => whnf
      refine ⟨?_, ?_, ?_, ?_⟩
      · rw [List.take_zero, List.append_nil]; rfl
      · simpa using hm
      · intro j m' hj hm'
        have htj : A ++ l[k].ducts.take (j + 1) = A ++ l[k].ducts.take j ++ [l[k].ducts[j]] := by rw [List.take_succ_eq_append_getElem hj, List.append_assoc]
        have hlen : (A ++ l[k].ducts.take j).count l[k].ducts[j] ≤ 300 * k + 300 := Nat.le_trans List.count_le_length (by rw [List.length_append, List.length_take]; omega)
        have hmp := many_push (A ++ l[k].ducts.take j) l[k].ducts[j]
        rw [← htj] at hmp
        conv => whnf
        repeat' (first | (refine .mk (fun h => ?_) (fun h => ?_) <;> (try simp only [decide_eq_true_eq, decide_eq_false_iff_not, Bool.not_eq_true', Bool.not_eq_false', beq_iff_eq, beq_eq_false_iff_ne, bne_iff_ne, bne_eq_false_iff_eq] at h) <;> (first | (exfalso; first | omega | exact h trivial) | (conv => whnf))) | (refine idx_at _ (by with_reducible rfl) (by first | assumption | omega) ?_; conv => whnf) | ((with_reducible refine sm_look (ek := ekS) (ev := evI) keyStr _ _ ((0 : Int)) ?_ ?_); exact rfl; conv => whnf) | ((with_reducible refine sm_upd (ek := ekS) (ev := evI) keyStr _ _ _ ?_); conv => whnf) | fail)
        all_goals
          generalize hc : (A ++ l[k].ducts.take j).count l[k].ducts[j] = c at *
          have hcm : (m'.get l[k].ducts[j]).getD 0 = (c : Nat) := by rw [hm'.cnt, hc]
          have hw : IntKind.i64.wrap ((m'.get l[k].ducts[j]).getD 0 + 1) = ((c + 1 : Nat) : Int) := by rw [hcm, wrap_in (by omega) (by omega)]; rfl
          have hg : ((m'.put l[k].ducts[j] ((c + 1 : Nat) : Int)).get l[k].ducts[j]).getD 0 = ((c + 1 : Nat) : Int) := by rw [SM.get_put, if_pos rfl]; rfl
          have hdc : decide ((20 : Int) < ((c + 1 : Nat) : Int)) = decide (20 < c + 1) := by rw [decide_eq_decide]; omega
          have hok := hm'.push l[k].ducts[j]
          rw [hc, ← htj] at hok
          rw [hw]
        · exact count_next _ hj (by rw [wrap_succ hj (by omega), hmp, h]; rfl) hok
        · rw [hg, hdc]
          exact count_next _ hj (by rw [wrap_succ hj (by omega), hmp, h]; rfl) hok
      · intro m' hm'
        rw [List.take_length] at *
        conv => whnf
        repeat' (first | (refine CondG.mk (fun h => ?_) (fun h => ?_) <;> (try simp only [decide_eq_true_eq, decide_eq_false_iff_not, Bool.not_eq_true', Bool.not_eq_false', beq_iff_eq, beq_eq_false_iff_ne, bne_iff_ne, bne_eq_false_iff_eq] at h) <;> (first | (exfalso; first | omega | exact h trivial) | (conv => whnf))) | fail)
        exact count_next m' hk (by rw [wrap_succ hk (by omega), hft]; rfl) ⟨by rw [hft]; exact hm', by rw [hft, List.length_append]; omega, hnx⟩
  · intro m ⟨hm, hn, hi⟩
    rw [List.take_length] at *
    have h0 := seq_end hi
    have hall := many_full (lysErr_ok h0).2
    conv => whnf
    repeat' (first | (refine CondG.mk (fun h => ?_) (fun h => ?_) <;> (try simp only [decide_eq_true_eq, decide_eq_false_iff_not, Bool.not_eq_true', Bool.not_eq_false', beq_iff_eq, beq_eq_false_iff_ne, bne_iff_ne, bne_eq_false_iff_eq] at h) <;> (first | (exfalso; first | omega | exact h trivial) | (conv => whnf))) | fail)
    · exact fini (by rw [hF, if_neg (by simp [h0]), if_pos (by rw [← hall]; exact h)])
    · exact fini (by rw [hF, if_neg (by simp [h0]), if_neg (by rw [← hall, h]; decide)])
end Go.Proofs.YtbdlhiogjnbhjaaGreat

namespace Go.Proofs.YtbdlhiogjnbhjaaGreat
set_option linter.unusedVariables false
set_option linter.unusedSimpArgs false
open Abs

set_option maxRecDepth 100000 in
set_option maxHeartbeats 4000000 in
theorem ixLyK_pc (key : ByteArray) (g : Nat) (p : Ly → Bool) (l : List Ly) (hl : l.length ≤ 1000000) (hg : ∀ x ∈ l, PCp g [.agg (encLy x), .c (.ptr 0 0)] [.box [.str key]] (.c (.bool (p x))) [.box [.str key]]) : PCp 52 [.c (.lst 3 (l.map encLy)), .c (.fn g [.ptr 0 0])] [.box [.str key]] (.c (.int .i64 (idxP p l))) [.box [.str key]] := by
  have hlm : (l.map encLy).length = l.length := List.length_map ..
  refine fn_sound (mt := mts) tab_fits tab_mixed Tryz.func52 (by rfl) (by kernel_rfl) (by kernel_rfl) Tryz.results52 (Nat.le_of_ble_eq_true (by kernel_rfl)) ?_
  conv => whnf
  refine loop_count (l.length) [] [0, 1, 7, 8] (fun k (_ : Unit) => ⟨[(0, .c (.lst 3 (l.map encLy))), (1, .c (.fn g [.ptr 0 0])), (7, .c (.int .i64 (l.map encLy).length)), (8, .c (.int .i64 k))], [(0, .box [.str key])], 1⟩) (fun k (_ : Unit) => ∀ i (hi : i < l.length), i < k → p l[i] = false) (()) ?_ ?_ ?_
  · conv => whnf
    exact ⟨rfl, by intro i hi h; omega⟩
  · intro k _ hk hi
    conv => whnf
    repeat' (first | (refine CondG.mk (fun h => ?_) (fun h => ?_) <;> (try simp only [decide_eq_true_eq, decide_eq_false_iff_not, Bool.not_eq_true', Bool.not_eq_false', beq_iff_eq, beq_eq_false_iff_ne, bne_iff_ne, bne_eq_false_iff_eq] at h) <;> (first | (exfalso; first | omega | exact h trivial) | (conv => whnf))) | (refine  CallX.mk _ _ (by exact hg l[k] (List.getElem_mem hk)) ?_; conv => whnf) | (refine idx_at _ (by with_reducible rfl) (by first | assumption | omega) ?_; conv => whnf) | fail)
    · exact .mk ⟨by rw [idxP_hit hk (fun i hi' => hi i (by omega) hi') h]; rfl, rfl⟩
    · refine count_next () hk (by rw [wrap_succ hk (by omega)]; rfl) ?_
      exact all_succ' hi h
  · intro _ hi
    conv => whnf
    repeat' (first | (refine CondG.mk (fun h => ?_) (fun h => ?_) <;> (try simp only [decide_eq_true_eq, decide_eq_false_iff_not, Bool.not_eq_true', Bool.not_eq_false', beq_iff_eq, beq_eq_false_iff_ne] at h) <;> (first | (exfalso; first | omega | exact h trivial) | (conv => whnf))) | fail)
    exact .mk ⟨by rw [idxP_miss (fun i h => hi i h h)]; rfl, rfl⟩
def cabIx (l : List Ly) (k : ByteArray) : Int := idxP (fun x : Ly => decide (x.cable = k)) l
set_option maxRecDepth 100000 in
set_option maxHeartbeats 4000000 in
theorem lying1_pc (x : Ly) (k : ByteArray) : PCp 53 [.agg (encLy x), .c (.ptr 0 0)] [.box [.str k]] (.c (.bool (decide (x.cable = k)))) [.box [.str k]] := by
  refine fn_sound (mt := mts) tab_fits tab_mixed Tryz.func53 (by rfl) (by kernel_rfl) (by kernel_rfl) Tryz.results53 (Nat.le_of_ble_eq_true (by kernel_rfl)) ?_
  conv => whnf
  skip
  exact .mk ⟨by rw [beqL]; rfl, rfl⟩
set_option maxRecDepth 100000 in
set_option maxHeartbeats 4000000 in
theorem lying_pc (l : List Ly) (hl : l.length ≤ 1000000) (k : ByteArray) : PCp 19 [.c (.lst 3 (l.map encLy)), .c (.str k)] [] (.c (.int .i64 (cabIx l k))) [] := by
  refine fn_sound (mt := mts) tab_fits tab_mixed Tryz.func19 (by rfl) (by kernel_rfl) (by kernel_rfl) Tryz.results19 (Nat.le_of_ble_eq_true (by kernel_rfl)) ?_
  conv => whnf
  repeat' (first | (refine  CallX.mk _ _ (by exact ixLyK_pc k 53 (fun x => decide (x.cable = k)) l hl (fun x _ => lying1_pc x k)) ?_; conv => whnf) | fail)
  exact fini rfl
def cabsL (l : List Ly) (k : ByteArray) : List ByteArray := (inL l k).map Ly.cable
theorem inL_take {l : List Ly} {k : Nat} (h : k < l.length) (key : ByteArray) : inL (l.take (k + 1)) key = inL (l.take k) key ++ (if key ∈ l[k].ducts then [l[k]] else []) := by
  unfold inL
  rw [List.take_succ_eq_append_getElem h, List.filter_append]
  by_cases e : key ∈ l[k].ducts <;> simp [e]
theorem inL_len (l : List Ly) (key : ByteArray) : (inL l key).length ≤ l.length := List.length_filter_le _ _
set_option maxRecDepth 100000 in
set_option maxHeartbeats 4000000 in
theorem lyingIn_pc (l : List Ly) (hl : l.length ≤ 1000000) (hx : ∀ x ∈ l, x.ducts.length ≤ 1000000) (key : ByteArray) : PCp 49 [.c (.lst 3 (l.map encLy)), .c (.str key)] [] (.c (.lst 1 ((cabsL l key).map encS))) [] := by
  have hlm : (l.map encLy).length = l.length := List.length_map ..
  refine fn_sound (mt := mts) tab_fits tab_mixed Tryz.func49 (by rfl) (by kernel_rfl) (by kernel_rfl) Tryz.results49 (Nat.le_of_ble_eq_true (by kernel_rfl)) ?_
  conv => whnf
  refine loop_for (l.length) [.sl 5 9 1] [1, 5, 8, 9, 10] (fun k (_ : Unit) => [(10, .c (.int .i64 (k : Int)))]) (fun k (_ : Unit) => [(0, .row 9 1 ((cabsL (l.take k) key).map encS))]) (fun k (_ : Unit) => True) (()) ?_
  conv => whnf
  refine ⟨(by first | rfl | (simp; done) | (simp; rfl)), (by trivial), ?_, ?_⟩
  · intro k _ hk _
    have hle := inL_len (l.take k) key
    have hcm : ((cabsL (l.take k) key).map encS).length = (inL (l.take k) key).length := by simp [cabsL]
    have hcl : (cabsL (l.take k) key).length = (inL (l.take k) key).length := by simp [cabsL]
    have htl : (l.take k).length = k := by rw [List.length_take]; omega
    have ht := inL_take hk key
    conv => whnf
    repeat' (first | (refine CondG.mk (fun h => ?_) (fun h => ?_) <;> (try simp only [decide_eq_true_eq, decide_eq_false_iff_not, Bool.not_eq_true', Bool.not_eq_false', beq_iff_eq, beq_eq_false_iff_ne, bne_iff_ne, bne_eq_false_iff_eq] at h) <;> (first | (exfalso; first | omega | exact h trivial) | (conv => whnf))) | (refine  CallX.mk _ _ (by exact containsS_pc key _ (hx _ (List.getElem_mem hk))) ?_; conv => whnf) | (refine AppG.mk (by first | omega | (unfold roomOK; simp [cutRows]; done) | (unfold roomOK; simp [cutRows]; omega) | (simp [cutRows]; done) | (simp [cutRows]; omega)) ?_; conv => whnf) | (refine idx_at _ (by with_reducible rfl) (by first | assumption | omega) ?_; conv => whnf) | fail)
    · have h9 : cabsL (l.take (k + 1)) key = cabsL (l.take k) key ++ [l[k].cable] := by unfold cabsL; rw [ht, if_pos h, List.map_append]; rfl
      exact count_next () hk (by rw [wrap_succ hk (by omega), h9, List.map_append]; rfl) trivial
    · have h9 : cabsL (l.take (k + 1)) key = cabsL (l.take k) key := by unfold cabsL; rw [ht, if_neg h, List.append_nil]
      exact count_next () hk (by rw [wrap_succ hk (by omega), h9]; rfl) trivial
  · intro _ _
    rw [List.take_length]
    conv => whnf
    repeat' (first | (refine CondG.mk (fun h => ?_) (fun h => ?_) <;> (try simp only [decide_eq_true_eq, decide_eq_false_iff_not, Bool.not_eq_true', Bool.not_eq_false', beq_iff_eq, beq_eq_false_iff_ne, bne_iff_ne, bne_eq_false_iff_eq] at h) <;> (first | (exfalso; first | omega | exact h trivial) | (conv => whnf))) | fail)
    exact .frz 0 _ _ _ rfl (.weak [_] (.fro 0 _ _ rfl) rfl (Nat.le_refl _))
set_option maxRecDepth 100000 in
set_option maxHeartbeats 4000000 in
theorem rFault1_pc (l : List Ly) (hl : l.length ≤ 1000000) (hx : ∀ x ∈ l, x.ducts.length ≤ 1000000) (x : Du) : PCp 48 [.agg (encDu x), .c (.ptr 0 0)] [.box [.lst 3 (l.map encLy)]] (.c (.bool (decide (20 < (inL l x.key).length)))) [.box [.lst 3 (l.map encLy)]] := by
  have hcm : ((cabsL l x.key).map encS).length = (inL l x.key).length := by simp [cabsL]
  refine fn_sound (mt := mts) tab_fits tab_mixed Tryz.func48 (by rfl) (by kernel_rfl) (by kernel_rfl) Tryz.results48 (Nat.le_of_ble_eq_true (by kernel_rfl)) ?_
  conv => whnf
  repeat' (first | (refine  CallX.mk _ _ (by exact lyingIn_pc l hl hx _) ?_; conv => whnf) | fail)
  exact .mk ⟨by rw [hcm, show decide ((20 : Int) < ((inL l x.key).length : Nat)) = decide (20 < (inL l x.key).length) from by rw [decide_eq_decide]; omega]; rfl, rfl⟩
set_option maxRecDepth 100000 in
set_option maxHeartbeats 4000000 in
theorem ixDuL_pc (q : List Ly) (g : Nat) (p : Du → Bool) (l : List Du) (hl : l.length ≤ 1000000) (hg : ∀ x ∈ l, PCp g [.agg (encDu x), .c (.ptr 0 0)] [.box [.lst 3 (q.map encLy)]] (.c (.bool (p x))) [.box [.lst 3 (q.map encLy)]]) : PCp 84 [.c (.lst 5 (l.map encDu)), .c (.fn g [.ptr 0 0])] [.box [.lst 3 (q.map encLy)]] (.c (.int .i64 (idxP p l))) [.box [.lst 3 (q.map encLy)]] := by
  have hlm : (l.map encDu).length = l.length := List.length_map ..
  refine fn_sound (mt := mts) tab_fits tab_mixed Tryz.func84 (by rfl) (by kernel_rfl) (by kernel_rfl) Tryz.results84 (Nat.le_of_ble_eq_true (by kernel_rfl)) ?_
  conv => whnf
  refine loop_count (l.length) [] [0, 1, 7, 8] (fun k (_ : Unit) => ⟨[(0, .c (.lst 5 (l.map encDu))), (1, .c (.fn g [.ptr 0 0])), (7, .c (.int .i64 (l.map encDu).length)), (8, .c (.int .i64 k))], [(0, .box [.lst 3 (q.map encLy)])], 1⟩) (fun k (_ : Unit) => ∀ i (hi : i < l.length), i < k → p l[i] = false) (()) ?_ ?_ ?_
  · conv => whnf
    exact ⟨rfl, by intro i hi h; omega⟩
  · intro k _ hk hi
    conv => whnf
    repeat' (first | (refine CondG.mk (fun h => ?_) (fun h => ?_) <;> (try simp only [decide_eq_true_eq, decide_eq_false_iff_not, Bool.not_eq_true', Bool.not_eq_false', beq_iff_eq, beq_eq_false_iff_ne, bne_iff_ne, bne_eq_false_iff_eq] at h) <;> (first | (exfalso; first | omega | exact h trivial) | (conv => whnf))) | (refine  CallX.mk _ _ (by exact hg l[k] (List.getElem_mem hk)) ?_; conv => whnf) | (refine idx_at _ (by with_reducible rfl) (by first | assumption | omega) ?_; conv => whnf) | fail)
    · exact .mk ⟨by rw [idxP_hit hk (fun i hi' => hi i (by omega) hi') h]; rfl, rfl⟩
    · refine count_next () hk (by rw [wrap_succ hk (by omega)]; rfl) ?_
      exact all_succ' hi h
  · intro _ hi
    conv => whnf
    repeat' (first | (refine CondG.mk (fun h => ?_) (fun h => ?_) <;> (try simp only [decide_eq_true_eq, decide_eq_false_iff_not, Bool.not_eq_true', Bool.not_eq_false', beq_iff_eq, beq_eq_false_iff_ne] at h) <;> (first | (exfalso; first | omega | exact h trivial) | (conv => whnf))) | fail)
    exact .mk ⟨by rw [idxP_miss (fun i h => hi i h h)]; rfl, rfl⟩
set_option maxRecDepth 100000 in
set_option maxHeartbeats 4000000 in
theorem ixDuLC_pc (q : List Ly) (g : Nat) (p : Du → Bool) (l : List Du) (hl : l.length ≤ 1000000) (hg : ∀ x ∈ l, PCp g [.agg (encDu x), .c (.ptr 0 0)] [.box [.lst 3 (q.map encLy)]] (.c (.bool (p x))) [.box [.lst 3 (q.map encLy)]]) : PCp 47 [.c (.lst 5 (l.map encDu)), .c (.fn g [.ptr 0 0])] [.box [.lst 3 (q.map encLy)]] (.c (.bool (l.any p))) [.box [.lst 3 (q.map encLy)]] := by
  refine fn_sound (mt := mts) tab_fits tab_mixed Tryz.func47 (by rfl) (by kernel_rfl) (by kernel_rfl) Tryz.results47 (Nat.le_of_ble_eq_true (by kernel_rfl)) ?_
  conv => whnf
  repeat' (first | (refine  CallX.mk _ _ (by exact ixDuL_pc q g p l hl hg) ?_; conv => whnf) | fail)
  exact .mk ⟨by rw [← idxP_any]; rfl, rfl⟩
set_option maxRecDepth 100000 in
set_option maxHeartbeats 4000000 in
theorem rLyingFault_pc (d : List Du) (l : List Ly) (hx : ∀ x ∈ l, x.ducts.length ≤ 1000000) : PCp 16 [.c (.lst 5 (d.map encDu)), .c (.lst 3 (l.map encLy))] [] (.c (.int .i64 (lyFault d l))) [] := by
  have hlm : (l.map encLy).length = l.length := List.length_map ..
  refine fn_sound (mt := mts) tab_fits tab_mixed Tryz.func16 (by rfl) (by kernel_rfl) (by kernel_rfl) Tryz.results16 (Nat.le_of_ble_eq_true (by kernel_rfl)) ?_
  conv => whnf
  repeat' (first | (refine CondG.mk (fun h => ?_) (fun h => ?_) <;> (try simp only [decide_eq_true_eq, decide_eq_false_iff_not, Bool.not_eq_true', Bool.not_eq_false', beq_iff_eq, beq_eq_false_iff_ne, bne_iff_ne, bne_eq_false_iff_eq] at h) <;> (first | (exfalso; first | omega | exact h trivial) | (conv => whnf))) | (refine  CallX.mk _ _ (by exact rDuctsFault_pc d) ?_; conv => whnf) | fail)
  · exact fini (by rw [lyFault, if_pos h])
  · exact fini (by rw [lyFault, if_neg (by simp_all), if_pos (by omega)])
  rename_i hd0
  have hd0 : duFault d = 0 := by simpa using hd0
  have hd := duFault_ok hd0
  have hdl := hd.len
  have hF : lyFault d l = if lysErr d l ≠ 0 then lysErr d l else if fullL d l then 12 else 0 := by rw [lyFault, if_neg (by simp [hd0]), if_neg (by omega)]
  have hF1 : lysErr d l = seqErr (lyErr d) Ly.cable false ⟨#[]⟩ l := by rw [lysErr, seqErr_first lyErr_first]
  refine loop_for (l.length) [] [0, 3, 6, 22, 23, 24] (fun k (_ : Unit) => [(6, .c (.str (befK Ly.cable l k))), (24, .c (.int .i64 (k : Int)))]) (fun k (_ : Unit) => []) (fun k (_ : Unit) => seqErr (lyErr d) Ly.cable false (befK Ly.cable l k) (l.drop k) = lysErr d l) (()) ?_
  conv => whnf
  refine ⟨(by first | rfl | (simp; done) | (simp; rfl)), ?_, ?_, ?_⟩
  · exact hF1.symm
  · intro k _ hk hi
    have hxk := hx _ (List.getElem_mem hk)
    have hxm : (l[k].ducts.map encS).length = l[k].ducts.length := List.length_map ..
    conv => whnf
    repeat' (first | (refine CondG.mk (fun h => ?_) (fun h => ?_) <;> (try simp only [decide_eq_true_eq, decide_eq_false_iff_not, Bool.not_eq_true', Bool.not_eq_false', beq_iff_eq, beq_eq_false_iff_ne, bne_iff_ne, bne_eq_false_iff_eq] at h) <;> (first | (exfalso; first | omega | exact h trivial) | (conv => whnf))) | (refine  CallX.mk _ _ (by first | exact rKey_pc _ | exact rIn_pc _ _ _) ?_; conv => whnf) | (refine idx_at _ (by with_reducible rfl) (by first | assumption | omega) ?_; conv => whnf) | fail)
    all_goals try simp only [toList_eq'] at *
    rotate_right
    · have hE : lyErr d false (befK Ly.cable l k) l[k] = seqErr (keyErr (hasD d)) id false ⟨#[]⟩ l[k].ducts := by
        rw [← seqErr_first (fun x => keyErr_first hd x)]
        unfold lyErr cabErr; clear hi hF
        (repeat' split) <;> first | rfl | (exfalso; first | omega | (simp_all [leB, toList_eq']; done) | (simp_all [leB, toList_eq']; omega))
      refine loop_for (l[k].ducts.length) [] [0, 3, 8, 9, 22, 23, 24, 54, 55, 56] (fun j (_ : Unit) => [(9, .c (.str (befK id l[k].ducts j))), (56, .c (.int .i64 (j : Int)))]) (fun j (_ : Unit) => []) (fun j (_ : Unit) => seqErr (keyErr (hasD d)) id false (befK id l[k].ducts j) (l[k].ducts.drop j) = lyErr d false (befK Ly.cable l k) l[k]) (()) ?_
      conv => whnf
      refine ⟨(by first | rfl | (simp; done) | (simp; rfl)), ?_, ?_, ?_⟩
      · exact hE.symm
      · intro j _ hj hij
        conv => whnf
        repeat' (first | (refine CondG.mk (fun h => ?_) (fun h => ?_) <;> (try simp only [decide_eq_true_eq, decide_eq_false_iff_not, Bool.not_eq_true', Bool.not_eq_false', beq_iff_eq, beq_eq_false_iff_ne, bne_iff_ne, bne_eq_false_iff_eq] at h) <;> (first | (exfalso; first | omega | exact h trivial) | (conv => whnf))) | (refine  CallX.mk _ _ (by exact ductAt_pc d (by omega) _) ?_; conv => whnf) | (refine idx_at _ (by with_reducible rfl) (by first | assumption | omega) ?_; conv => whnf) | fail)
        all_goals try simp only [toList_eq'] at *
        · have h9 := seq_hit hj hij (show keyErr (hasD d) false (befK id l[k].ducts j) l[k].ducts[j] = 8 by unfold keyErr; rw [h]; rfl) (by decide)
          have h10 := seq_hit hk hi h9.symm (by decide)
          exact fini (by rw [hF, if_pos (by omega)]; exact h10)
        · have h9 := seq_hit hj hij (show keyErr (hasD d) false (befK id l[k].ducts j) l[k].ducts[j] = 7 by unfold keyErr leB; simp_all [toList_eq']) (by decide)
          have h10 := seq_hit hk hi h9.symm (by decide)
          exact fini (by rw [hF, if_pos (by omega)]; exact h10)
        · have h9 := seq_next hj hij (show keyErr (hasD d) false (befK id l[k].ducts j) l[k].ducts[j] = 0 by unfold keyErr leB; simp_all [toList_eq'])
          exact count_next () hj (by rw [wrap_succ hj (by omega), befK_succ hj]; rfl) (by rw [befK_succ hj]; exact h9)
      · intro _ hij
        have h0 := seq_end hij
        conv => whnf
        repeat' (first | (refine CondG.mk (fun h => ?_) (fun h => ?_) <;> (try simp only [decide_eq_true_eq, decide_eq_false_iff_not, Bool.not_eq_true', Bool.not_eq_false', beq_iff_eq, beq_eq_false_iff_ne, bne_iff_ne, bne_eq_false_iff_eq] at h) <;> (first | (exfalso; first | omega | exact h trivial) | (conv => whnf))) | fail)
        exact count_next () hk (by rw [wrap_succ hk (by omega), befK_succ hk]; rfl) (by rw [befK_succ hk]; exact seq_next hk hi h0)
    all_goals
      (first
        | (have he : lyErr d false (befK Ly.cable l k) l[k] = 5 := by (unfold lyErr cabErr; clear hi hF hF1; (repeat' split) <;> first | rfl | (exfalso; first | omega | (simp_all [leB, toList_eq']; done) | (simp_all [leB, toList_eq']; omega)))
           have h9 := seq_hit hk hi he (by decide)
           exact fini (by rw [hF, if_pos (by omega)]; exact h9))
        | (have he : lyErr d false (befK Ly.cable l k) l[k] = 7 := by (unfold lyErr cabErr; clear hi hF hF1; (repeat' split) <;> first | rfl | (exfalso; first | omega | (simp_all [leB, toList_eq']; done) | (simp_all [leB, toList_eq']; omega)))
           have h9 := seq_hit hk hi he (by decide)
           exact fini (by rw [hF, if_pos (by omega)]; exact h9))
        | (have he : lyErr d false (befK Ly.cable l k) l[k] = 1 := by (unfold lyErr cabErr; clear hi hF hF1; (repeat' split) <;> first | rfl | (exfalso; first | omega | (simp_all [leB, toList_eq']; done) | (simp_all [leB, toList_eq']; omega)))
           have h9 := seq_hit hk hi he (by decide)
           exact fini (by rw [hF, if_pos (by omega)]; exact h9))
        | (have he : lyErr d false (befK Ly.cable l k) l[k] = 8 := by (unfold lyErr cabErr; clear hi hF hF1; (repeat' split) <;> first | rfl | (exfalso; first | omega | (simp_all [leB, toList_eq']; done) | (simp_all [leB, toList_eq']; omega)))
           have h9 := seq_hit hk hi he (by decide)
           exact fini (by rw [hF, if_pos (by omega)]; exact h9))
        | (have he : lyErr d false (befK Ly.cable l k) l[k] = 2 := by (unfold lyErr cabErr; clear hi hF hF1; (repeat' split) <;> first | rfl | (exfalso; first | omega | (simp_all [leB, toList_eq']; done) | (simp_all [leB, toList_eq']; omega)))
           have h9 := seq_hit hk hi he (by decide)
           exact fini (by rw [hF, if_pos (by omega)]; exact h9)))
  · intro _ hi
    have h0 := seq_end hi
    conv => whnf
    repeat' (first | (refine CondG.mk (fun h => ?_) (fun h => ?_) <;> (try simp only [decide_eq_true_eq, decide_eq_false_iff_not, Bool.not_eq_true', Bool.not_eq_false', beq_iff_eq, beq_eq_false_iff_ne, bne_iff_ne, bne_eq_false_iff_eq] at h) <;> (first | (exfalso; first | omega | exact h trivial) | (conv => whnf))) | (refine  CallX.mk _ _ (by exact ixDuLC_pc l 48 (fun x => decide (20 < (inL l x.key).length)) d (by omega) (fun x _ => rFault1_pc l (by omega) hx x)) ?_; conv => whnf) | fail)
    · exact fini (by rw [hF, if_neg (by simp [h0]), if_pos (by unfold fullL; exact h)])
    · exact fini (by rw [hF, if_neg (by simp [h0]), if_neg (by unfold fullL; rw [h]; decide)])
end Go.Proofs.YtbdlhiogjnbhjaaGreat

namespace Go.Proofs.YtbdlhiogjnbhjaaGreat
set_option linter.unusedVariables false
set_option linter.unusedSimpArgs false
open Abs

theorem hitS_eq {l : List ByteArray} (h : Rise id l) (t : ByteArray) : hitS t l = decide (t ∈ l) := by
  have hc : ∀ x : ByteArray, ((if ltB x t then (-1 : Int) else if x.toList = t.toList then 0 else 1) < 0 ↔ ltB (id x) t = true) ∧ ((if ltB x t then (-1 : Int) else if x.toList = t.toList then 0 else 1) = 0 ↔ id x = t) := by
    intro x
    by_cases h1 : ltB x t = true
    · simp [h1, ltB_ne h1]
    · by_cases h2 : x = t
      · subst h2; simp [h1]
      · simp [h1, h2, toList_eq']
  have hf := find_rise hc h
  unfold hitS
  generalize hh : hitL (fun x => if ltB x t then (-1 : Int) else if x.toList = t.toList then 0 else 1) l = b at *
  rw [Bool.eq_iff_iff, decide_eq_true_eq]
  cases b with
  | false =>
    constructor
    · intro e; cases e
    · intro ht
      have h1 : (l.find? fun x => decide (id x = t)).isSome := by rw [List.find?_isSome]; exact ⟨t, ht, by simp⟩
      rw [hf] at h1; simp at h1
  | true =>
    refine ⟨fun _ => ?_, fun _ => rfl⟩
    unfold hitL at hh
    split at hh
    · rename_i x hx
      rw [if_pos rfl, hx] at hf
      have h1 := List.find?_some hf
      have h2 := List.mem_of_find?_eq_some hf
      have : x = t := by simpa using h1
      rwa [this] at h2
    · cases hh
theorem binS_ok {l : List ByteArray} (h : Rise id l) (hl : l.length ≤ 1000000) (t : ByteArray) : PCp 165 [.c (.lst 1 (l.map encS)), .c (.str t)] [] (.tup [.c (.int .i64 ((cntS t l : Nat) : Int)), .c (.bool (decide (t ∈ l)))]) [] := by
  rw [← hitS_eq h]
  refine binS_pc t l hl ?_
  intro i j hj hij hlt
  rcases Nat.lt_or_ge i j with h1 | h1
  · exact ltB_trans (h.at h1 hj) hlt
  · have : i = j := by omega
    subst this; exact hlt
set_option maxRecDepth 100000 in
set_option maxHeartbeats 4000000 in
theorem dIn_pc (l : List Ly) (hl : l.length ≤ 1000000) (hx : ∀ x ∈ l, Rise id x.ducts ∧ x.ducts.length ≤ 1000000) (key : ByteArray) : PCp 132 [.c (.lst 3 (l.map encLy)), .c (.str key)] [] (.c (.lst 3 ((inL l key).map encLy))) [] := by
  have hlm : (l.map encLy).length = l.length := List.length_map ..
  refine fn_sound (mt := mts) tab_fits tab_mixed Tryz.func132 (by rfl) (by kernel_rfl) (by kernel_rfl) Tryz.results132 (Nat.le_of_ble_eq_true (by kernel_rfl)) ?_
  conv => whnf
  refine loop_for (l.length) [.sl 5 36 3] [1, 5, 10, 11, 12] (fun k (_ : Unit) => [(12, .c (.int .i64 (k : Int)))]) (fun k (_ : Unit) => [(0, .row 36 3 ((inL (l.take k) key).map encLy))]) (fun k (_ : Unit) => True) (()) ?_
  conv => whnf
  refine ⟨(by first | rfl | (simp; done) | (simp; rfl)), (by trivial), ?_, ?_⟩
  · intro k _ hk _
    have hle := inL_len (l.take k) key
    have hcm : ((inL (l.take k) key).map encLy).length = (inL (l.take k) key).length := List.length_map ..
    have htl : (l.take k).length = k := by rw [List.length_take]; omega
    have ht := inL_take hk key
    obtain ⟨h1, h2⟩ := hx _ (List.getElem_mem hk)
    conv => whnf
    repeat' (first | (refine CondG.mk (fun h => ?_) (fun h => ?_) <;> (try simp only [decide_eq_true_eq, decide_eq_false_iff_not, Bool.not_eq_true', Bool.not_eq_false', beq_iff_eq, beq_eq_false_iff_ne, bne_iff_ne, bne_eq_false_iff_eq] at h) <;> (first | (exfalso; first | omega | exact h trivial) | (conv => whnf))) | (refine  CallX.mk _ _ (by exact binS_ok h1 h2 key) ?_; conv => whnf) | (refine AppG.mk (by first | omega | (unfold roomOK; simp [cutRows]; done) | (unfold roomOK; simp [cutRows]; omega) | (simp [cutRows]; done) | (simp [cutRows]; omega)) ?_; conv => whnf) | (refine idx_at _ (by with_reducible rfl) (by first | assumption | omega) ?_; conv => whnf) | fail)
    · rw [if_pos h] at ht
      exact count_next () hk (by rw [wrap_succ hk (by omega), ht, List.map_append]; rfl) trivial
    · rw [if_neg h, List.append_nil] at ht
      exact count_next () hk (by rw [wrap_succ hk (by omega), ht]; rfl) trivial
  · intro _ _
    rw [List.take_length]
    conv => whnf
    repeat' (first | (refine CondG.mk (fun h => ?_) (fun h => ?_) <;> (try simp only [decide_eq_true_eq, decide_eq_false_iff_not, Bool.not_eq_true', Bool.not_eq_false', beq_iff_eq, beq_eq_false_iff_ne, bne_iff_ne, bne_eq_false_iff_eq] at h) <;> (first | (exfalso; first | omega | exact h trivial) | (conv => whnf))) | fail)
    exact .frz 0 _ _ _ rfl (.weak [_] (.fro 0 _ _ rfl) rfl (Nat.le_refl _))
set_option maxRecDepth 100000 in
set_option maxHeartbeats 4000000 in
theorem dOuters_pc (l : List Ly) (hl : l.length ≤ 1000000) (hx : ∀ x ∈ l, Rise id x.ducts ∧ x.ducts.length ≤ 1000000) (key : ByteArray) : PCp 78 [.c (.lst 3 (l.map encLy)), .c (.str key)] [] (.c (.row 0)) [.row 3 1 ((outV l key).map encI)] := by
  have hle := inL_len l key
  refine fn_sound (mt := mts) tab_fits tab_mixed Tryz.func78 (by rfl) (by kernel_rfl) (by kernel_rfl) Tryz.results78 (Nat.le_of_ble_eq_true (by kernel_rfl)) ?_
  conv => whnf
  repeat' (first | (refine  CallX.mk _ _ (by exact dIn_pc l hl hx key) ?_; conv => whnf) | fail)
  have hO : outV l key = (inL l key).map Ly.outer := rfl
  rw [hO]
  generalize inL l key = L at *
  have hlm : (L.map encLy).length = L.length := List.length_map ..
  refine loop_for (L.length) [.sl 5 3 1] [5, 10, 11, 12] (fun k (_ : Unit) => [(12, .c (.int .i64 (k : Int)))]) (fun k (_ : Unit) => [(0, .row 3 1 (((L.take k).map Ly.outer).map encI))]) (fun k (_ : Unit) => True) (()) ?_
  conv => whnf
  refine ⟨(by first | rfl | (simp; done) | (simp; rfl)), (by trivial), ?_, ?_⟩
  · intro k _ hk _
    have hcm : (((L.take k).map Ly.outer).map encI).length = (L.take k).length := by simp
    have htl : (L.take k).length = k := by rw [List.length_take]; omega
    conv => whnf
    repeat' (first | (refine CondG.mk (fun h => ?_) (fun h => ?_) <;> (try simp only [decide_eq_true_eq, decide_eq_false_iff_not, Bool.not_eq_true', Bool.not_eq_false', beq_iff_eq, beq_eq_false_iff_ne, bne_iff_ne, bne_eq_false_iff_eq] at h) <;> (first | (exfalso; first | omega | exact h trivial) | (conv => whnf))) | (refine AppG.mk (by first | omega | (unfold roomOK; simp [cutRows]; done) | (unfold roomOK; simp [cutRows]; omega) | (simp [cutRows]; done) | (simp [cutRows]; omega)) ?_; conv => whnf) | (refine idx_at _ (by with_reducible rfl) (by first | assumption | omega) ?_; conv => whnf) | fail)
    exact count_next () hk (by rw [wrap_succ hk (by omega), List.take_succ_eq_append_getElem hk, List.map_append, List.map_append]; rfl) trivial
  · intro _ _
    rw [List.take_length]
    conv => whnf
    repeat' (first | (refine CondG.mk (fun h => ?_) (fun h => ?_) <;> (try simp only [decide_eq_true_eq, decide_eq_false_iff_not, Bool.not_eq_true', Bool.not_eq_false', beq_iff_eq, beq_eq_false_iff_ne, bne_iff_ne, bne_eq_false_iff_eq] at h) <;> (first | (exfalso; first | omega | exact h trivial) | (conv => whnf))) | fail)
    exact .mk ⟨rfl, rfl⟩
end Go.Proofs.YtbdlhiogjnbhjaaGreat

namespace Go.Proofs.YtbdlhiogjnbhjaaGreat
set_option linter.unusedVariables false
set_option linter.unusedSimpArgs false
open Abs

def oneE (d : List Du) (l : List Ly) (k : ByteArray) : Int := if lyFault d l ≠ 0 then lyFault d l else if hasD d k then 0 else 8
def duV (d : List Du) (l : List Ly) (k : ByteArray) : Du := if oneE d l k = 0 then duG d k else du0
theorem oneE_ok {d : List Du} {l : List Ly} {k : ByteArray} (h : oneE d l k = 0) : LyOk d l ∧ hasD d k = true ∧ lyFault d l = 0 := by
  unfold oneE at h
  split at h
  · exact absurd h (by assumption)
  · split at h
    · rename_i h1 h2; exact ⟨lyFault_ok (by omega), h2, by omega⟩
    · omega
theorem LyOk.rl {d : List Du} {l : List Ly} (h : LyOk d l) : ∀ x ∈ l, Rise id x.ducts ∧ x.ducts.length ≤ 1000000 := fun x hx => ⟨(h.each x hx).rise, by have := (h.each x hx).len; omega⟩
theorem LyOk.o1000 {d : List Du} {l : List Ly} (h : LyOk d l) (k : ByteArray) : ∀ x ∈ outV l k, 0 ≤ x ∧ x ≤ 1000 := by
  intro x hx
  obtain ⟨y, hy, rfl⟩ := List.mem_map.1 hx
  have := (h.each y (List.mem_filter.1 hy).1).out
  omega
theorem outV_len (l : List Ly) (k : ByteArray) : (outV l k).length = (inL l k).length := List.length_map ..
theorem LyOk.out20 {d : List Du} {l : List Ly} (h : LyOk d l) {k : ByteArray} (hk : hasD d k = true) : (outV l k).length ≤ 20 := by
  obtain ⟨x, hx, rfl⟩ := hasD_iff.1 hk
  rw [outV_len]; exact h.few x hx
theorem duG_in {d : List Du} (h : DuOk d) {k : ByteArray} (hk : hasD d k = true) : duG d k ∈ d ∧ (duG d k).key = k := by
  obtain ⟨x, hx, rfl⟩ := hasD_iff.1 hk
  rw [duG_mem h hx]; exact ⟨hx, rfl⟩
set_option maxRecDepth 100000 in
set_option maxHeartbeats 4000000 in
theorem ductOf_pc (d : List Du) (l : List Ly) (hx : ∀ x ∈ l, x.ducts.length ≤ 1000000) (k : ByteArray) : PCp 75 [.c (.lst 5 (d.map encDu)), .c (.lst 3 (l.map encLy)), .c (.str k)] [] (.tup [.agg (encDu (duV d l k)), .c (.int .i64 (oneE d l k))]) [] := by
  refine fn_sound (mt := mts) tab_fits tab_mixed Tryz.func75 (by rfl) (by kernel_rfl) (by kernel_rfl) Tryz.results75 (Nat.le_of_ble_eq_true (by kernel_rfl)) ?_
  conv => whnf
  repeat' (first | (refine CondG.mk (fun h => ?_) (fun h => ?_) <;> (try simp only [decide_eq_true_eq, decide_eq_false_iff_not, Bool.not_eq_true', Bool.not_eq_false', beq_iff_eq, beq_eq_false_iff_ne, bne_iff_ne, bne_eq_false_iff_eq] at h) <;> (first | (exfalso; first | omega | exact h trivial) | (conv => whnf))) | (refine  CallX.mk _ _ (by exact checkLying_pc d l hx) ?_; conv => whnf) | fail)
  · have h1 : oneE d l k = lyFault d l := by rw [oneE, if_pos h]
    exact .mk ⟨by rw [duV, h1, if_neg h]; rfl, rfl⟩
  have hok := lyFault_ok h
  repeat' (first | (refine CondG.mk (fun h => ?_) (fun h => ?_) <;> (try simp only [decide_eq_true_eq, decide_eq_false_iff_not, Bool.not_eq_true', Bool.not_eq_false', beq_iff_eq, beq_eq_false_iff_ne, bne_iff_ne, bne_eq_false_iff_eq] at h) <;> (first | (exfalso; first | omega | exact h trivial) | (conv => whnf))) | (refine  CallX.mk _ _ (by exact find_pc d hok.du k) ?_; conv => whnf) | fail)
  · have h1 : oneE d l k = 8 := by rw [oneE, if_neg (by omega), if_neg (by rw [h]; decide)]
    exact .mk ⟨by rw [duV, h1, if_neg (by decide)]; rfl, rfl⟩
  · have h1 : oneE d l k = 0 := by rw [oneE, if_neg (by omega), if_pos h]
    exact .mk ⟨by rw [duV, h1, if_pos rfl]; rfl, rfl⟩
end Go.Proofs.YtbdlhiogjnbhjaaGreat

