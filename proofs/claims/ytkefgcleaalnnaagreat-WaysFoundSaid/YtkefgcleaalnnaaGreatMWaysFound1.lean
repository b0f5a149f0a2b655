/- Parts of the proof, in order. -/
import Derived.Lib.AppendZerosOnto
import Derived.Lib.Bytealg
import Derived.Lib.Hide
import Derived.Lib.Overlaps
import Derived.Lib.Slices
import Derived.Lib.Strings
import Derived.Lib.Walk
import Derived.Shelf.Spec.SlicesInsertGrow
import Derived.Test.YtkefgcleaalnnaaGreatAbsY
import Derived.Test.YtkefgcleaalnnaaGreatAbsZ
import Derived.Test.YtkefgcleaalnnaaGreatEk
import Derived.Test.YtkefgcleaalnnaaGreatLay
import Derived.Test.YtkefgcleaalnnaaGreatLoop
import Derived.Test.YtkefgcleaalnnaaGreatSort
import Derived.Test.YtkefgcleaalnnaaGreatSort1
import Derived.Test.YtkefgcleaalnnaaGreatTab
import Derived.Test.YtkefgcleaalnnaaGreatWrap

namespace Go.Proofs.YtkefgcleaalnnaaGreat
set_option linter.unusedVariables false
set_option linter.unusedSimpArgs false
open Abs
set_option maxHeartbeats 4000000
set_option maxRecDepth 100000
abbrev PCp := PCs Tryz.prog
abbrev PCq := PCx Tryz.prog
def mts : List Nat := [46, 124, 126, 42, 100, 101, 97, 94, 144, 69, 38, 87, 130, 63, 117, 115, 65]
theorem qA {p : Prop} [Decidable p] : (decide p = true) = p := decide_eq_true_eq
theorem qB {p : Prop} [Decidable p] : decide p = false ↔ ¬p := decide_eq_false_iff_not
theorem qC {b : Bool} : ((!b) = true) = (b = false) := Bool.not_eq_true' b
theorem qD {b : Bool} : ((!b) = false) = (b = true) := Bool.not_eq_false' b
theorem qE {α : Type} [BEq α] [LawfulBEq α] {a b : α} : (a == b) = true ↔ a = b := beq_iff_eq
theorem qF {α : Type} [BEq α] [LawfulBEq α] {a b : α} : (a == b) = false ↔ a ≠ b := beq_eq_false_iff_ne
theorem qG {α : Type} [BEq α] [LawfulBEq α] {a b : α} : (a != b) = true ↔ a ≠ b := bne_iff_ne
theorem qH {α : Type} [BEq α] [LawfulBEq α] {a b : α} : (a != b) = false ↔ a = b := bne_eq_false_iff_eq
theorem fnP {g : Nat} {fn : Func} {code : Code} {rs : List ResultVar} {args : List S} {objs : List Ob} {r : S} {objs2 : List Ob} (hf : Tryz.prog.funcs[g]? = some fn) (hres : fn.results = rs.toArray) (hk : abody tab mts (PCx Tryz.prog) code rs args objs (FinR objs.length r objs2)) (hb : fn.body = some code := by rfl) (hn : (fn.name == "runtime.NumGoroutine") = false := by kernel_rfl) (hok : codeOK fn.ntmps code = true := by kernel_rfl) (hna : Nat.ble args.length fn.ntmps = true := by kernel_rfl) : PCs Tryz.prog g args objs r objs2 :=
 fn_sound tab_fits tab_mixed hf hb hn hok hres (Nat.le_of_ble_eq_true hna) hk
theorem fnPX {g : Nat} {fn : Func} {code : Code} {rs : List ResultVar} {args : List S} {objs : List Ob} {Q : S → List Ob → Prop} (hf : Tryz.prog.funcs[g]? = some fn) (hres : fn.results = rs.toArray) (hk : abody tab mts (PCx Tryz.prog) code rs args objs (FinX Q objs.length)) (hb : fn.body = some code := by rfl) (hn : (fn.name == "runtime.NumGoroutine") = false := by kernel_rfl) (hok : codeOK fn.ntmps code = true := by kernel_rfl) (hna : Nat.ble args.length fn.ntmps = true := by kernel_rfl) : PCx Tryz.prog g args objs Q :=
 fn_soundX tab_fits tab_mixed hf hb hn hok hres (Nat.le_of_ble_eq_true hna) hk
theorem finb {m : Nat} {a b : Bool} {os : List Ob} (h : a = b) : FinR m (.c (.bool b)) os (.c (.bool a)) os := .mk ⟨by rw [h], rfl⟩
theorem fini {m : Nat} {k : IntKind} {a b : Int} {os : List Ob} (h : a = b) : FinR m (.c (.int k b)) os (.c (.int k a)) os := .mk ⟨by rw [h], rfl⟩
theorem bOut_pc (n lo hi : Int) : PCp 121 [.c (.int .i64 n), .c (.int .i64 lo), .c (.int .i64 hi)] [] (.c (.bool (decide (n < lo ∨ hi < n)))) [] := by
 refine fnP Tryz.func121 Tryz.results121 ?_
 conv => whnf
 repeat' (first | (refine Split.mk (fun h => ?_) (fun h => ?_) <;> (try simp only [decide_eq_true_eq, decide_eq_false_iff_not, Bool.not_eq_true', Bool.not_eq_false', beq_iff_eq, beq_eq_false_iff_ne] at h) <;> (first | (exfalso; first | omega | exact h trivial) | (conv => whnf))) | fail)
 all_goals exact finb (by simp_all <;> omega)
theorem rIn_pc (n lo hi : Int) : PCp 54 [.c (.int .i64 n), .c (.int .i64 lo), .c (.int .i64 hi)] [] (.c (.bool (decide (lo ≤ n ∧ n ≤ hi)))) [] := by
 refine fnP Tryz.func54 Tryz.results54 ?_
 conv => whnf
 repeat' (first | (refine Split.mk (fun h => ?_) (fun h => ?_) <;> (try simp only [decide_eq_true_eq, decide_eq_false_iff_not, Bool.not_eq_true', Bool.not_eq_false', beq_iff_eq, beq_eq_false_iff_ne] at h) <;> (first | (exfalso; first | omega | exact h trivial) | (conv => whnf))) | fail)
 all_goals exact finb (by simp_all <;> omega)
theorem when_pc (b : Bool) (n : Int) : PCp 16 [.c (.bool b), .c (.int .i64 n)] [] (.c (.int .i64 (if b then n else 0))) [] := by
 refine fnP Tryz.func16 Tryz.results16 ?_
 conv => whnf
 repeat' (first | (refine CondG.mk (fun h => ?_) (fun h => ?_) <;> (try simp only [decide_eq_true_eq, decide_eq_false_iff_not, Bool.not_eq_true', Bool.not_eq_false', beq_iff_eq, beq_eq_false_iff_ne] at h) <;> (first | (exfalso; first | omega | exact h trivial) | (conv => whnf))) | fail)
 all_goals exact fini (by simp_all <;> omega)
def isKeyC (c : Int) : Bool := decide (97 ≤ c ∧ c ≤ 122) || (decide (48 ≤ c ∧ c ≤ 57) || (c == 45 || c == 95))
def keyB (s : ByteArray) : Bool := decide (0 < s.size ∧ s.size ≤ 40 ∧ 97 ≤ byteAt s 0 ∧ byteAt s 0 ≤ 122 ∧ ∀ i, i < s.size → isKeyC (byteAt s i) = true)
theorem all_succ {p : Nat → Prop} {k : Nat} (h : ∀ i, i < k → p i) (hk : p k) : ∀ i, i < k + 1 → p i := fun i hi => by
 rcases Nat.lt_or_ge i k with h1 | h1
 ·exact h i h1
 ·have : i = k := by omega
  subst this; exact hk
theorem size_nil (s : ByteArray) : (s.toList == (⟨#[]⟩ : ByteArray).toList) = decide (s.size = 0) := by
 rw [ByteArray.toList_eq, ByteArray.toList_eq]
 obtain ⟨⟨x⟩⟩ := s
 cases x with
 | nil => rfl
 | cons a r => rfl
theorem bKey_pc (s : ByteArray) : PCp 36 [.c (.str s)] [] (.c (.bool (keyB s))) [] := by
 refine fnP Tryz.func36 Tryz.results36 ?_
 conv => whnf
 rw [size_nil]
 repeat' (first | (refine .mk (fun h => ?_) (fun h => ?_) <;> (try simp only [decide_eq_true_eq, decide_eq_false_iff_not, Bool.not_eq_true', Bool.not_eq_false', beq_iff_eq, beq_eq_false_iff_ne] at h) <;> (first | (exfalso; first | omega | exact h trivial) | (conv => whnf))) | (refine .mk (by first | omega | (unfold roomOK; simp [cutRows]; done) | (unfold roomOK; simp [cutRows]; omega)) ?_; conv => whnf) | fail)
 all_goals try exact finb (by simp_all [keyB] <;> omega)
 refine loop_count (s.size) [] [0, 23, 24] (fun k (_ : Unit) => ⟨[(0, .c (.str s)), (23, .c (.int .i64 s.size)), (24, .c (.int .i64 k))], [], 0⟩) (fun k (_ : Unit) => ∀ i, i < k → isKeyC (byteAt s i) = true) (()) ?_ ?_ ?_
 ·conv => whnf
  exact ⟨rfl, by simp⟩
 ·intro k _ hk hi
  conv => whnf
  repeat' (first | (refine .mk (fun h => ?_) (fun h => ?_) <;> (try simp only [decide_eq_true_eq, decide_eq_false_iff_not, Bool.not_eq_true', Bool.not_eq_false', beq_iff_eq, beq_eq_false_iff_ne] at h) <;> (first | (exfalso; first | omega | exact h trivial) | (conv => whnf))) | (refine .mk (by first | omega | (unfold roomOK; simp [cutRows]; done) | (unfold roomOK; simp [cutRows]; omega)) ?_; conv => whnf) | fail)
  all_goals first
   | exact finb (by rw [eq_comm, keyB, decide_eq_false_iff_not]; intro hh; have h5 := hh.2.2.2.2 k hk; simp_all [isKeyC] <;> omega)
   | skip
  all_goals (refine count_next () hk (by rw [wrap_succ hk (by omega)]; rfl) (all_succ hi ?_); simp_all [isKeyC] <;> omega)
 ·intro _ hi
  conv => whnf
  repeat' (first | (refine CondG.mk (fun h => ?_) (fun h => ?_) <;> (try simp only [decide_eq_true_eq, decide_eq_false_iff_not, Bool.not_eq_true', Bool.not_eq_false', beq_iff_eq, beq_eq_false_iff_ne] at h) <;> (first | (exfalso; first | omega | exact h trivial) | (conv => whnf))) | fail)
  exact finb (by rw [eq_comm, keyB, decide_eq_true_iff]; exact ⟨by omega, by omega, by simp_all <;> omega, by simp_all <;> omega, hi⟩)
theorem PCs.of_same {P : Program} {f : Nat} {args : List S} {r : S} {cargs : Array Value} {c : Value} (hfn : ∃ fn, P.funcs[f]? = some fn ∧ (fn.name == "runtime.NumGoroutine") = false ∧ fn.body.isNone = false)
  (ha : ∀ (F : Nat → Prop) (φ : Nat → Option Value) (w : World) (cs : Array Value), P2 (RS F φ w) cs.toList args → cs = cargs) (hr : ∀ (F : Nat → Prop) (φ : Nat → Option Value) (w : World), RS F φ w c r) (h : ∀ w, Calls P f cargs w fun e w' => e = .returned c ∧ w' = w) : PCs P f args [] r [] := by
 refine ⟨hfn, fun F φ w cs hp hrp hφ => ?_⟩
 have := ha F φ w cs hp
 subst this
 refine (h w).mono ?_
 rintro e w' ⟨rfl, rfl⟩
 exact ⟨c, F, φ, r, [], ⟨rfl, rfl⟩, rfl, hr F φ w', Nx.refl⟩
theorem args2 {F : Nat → Prop} {φ : Nat → Option Value} {w : World} {cs : Array Value} {s1 s2 : S} {c1 c2 : Value} (h1 : ∀ c, RS F φ w c s1 → c = c1) (h2 : ∀ c, RS F φ w c s2 → c = c2) (hp : P2 (RS F φ w) cs.toList [s1, s2]) : cs = #[c1, c2] := by
 obtain ⟨x, xs, e1, r1, hp⟩ := hp.cons_inv
 obtain ⟨y, ys, e2, r2, hp⟩ := hp.cons_inv
 have := hp.nil_inv
 subst this
 subst e2
 apply Array.ext'
 rw [e1, h1 x r1, h2 y r2]
set_option maxHeartbeats 1000000 in
theorem slIndexByte_calls (s : ByteArray) (c : Int) (w : World) :
  Calls Tryz.prog 172 #[.string s, .int .u8 c] w fun e w' => e = .returned (.int .i64 (Lib.indexByte s.data.toList c.toNat.toUInt8)) ∧ w' = w := by
 go_enter Tryz.func172, Tryz.ntmps172
 go_wp2
 rw [run_callFunc_extern Tryz.func186 (by kernel_rfl) (by kernel_rfl) (by kernel_rfl) (e := Extern.BytealgIndexByte.indexByte) (by kernel_rfl), Lib.run_indexByteString]
 simp only [Result.andThen]
 rw [Oper.upon_value]
 go_wp2
 go_ret
 exact ⟨rfl, rfl⟩
set_option maxHeartbeats 1000000 in
theorem baCompare_calls (a b : ByteArray) (w : World) :
  Calls Tryz.prog 89 #[.string a, .string b] w fun e w' => e = .returned (.int .i64 (Lib.compareBytes a.data.toList b.data.toList)) ∧ w' = w := by
 go_enter Tryz.func89, Tryz.ntmps89
 go_wp2
 rw [run_callFunc_extern Tryz.func141 (by kernel_rfl) (by kernel_rfl) (by kernel_rfl) (e := Extern.BytealgCompare.compare) (by kernel_rfl), Lib.run_compareString]
 simp only [Result.andThen]
 rw [Oper.upon_value]
 go_wp2
 go_ret
 exact ⟨rfl, rfl⟩
theorem slIndexByte_pc (s : ByteArray) (c : Int) : PCp 172 [.c (.str s), .c (.int .u8 c)] [] (.c (.int .i64 (Lib.indexByte s.data.toList c.toNat.toUInt8))) [] :=
 PCs.of_same ⟨_, Tryz.func172, by kernel_rfl, by kernel_rfl⟩ (fun F φ w cs hp => args2 (fun c h => h.str_inv) (fun c h => h.int_inv) hp) (fun F φ w => RS.mki _ _) (slIndexByte_calls s c)
theorem baCompare_pc (a b : ByteArray) : PCp 89 [.c (.str a), .c (.str b)] [] (.c (.int .i64 (Lib.compareBytes a.data.toList b.data.toList))) [] :=
 PCs.of_same ⟨_, Tryz.func89, by kernel_rfl, by kernel_rfl⟩ (fun F φ w cs hp => args2 (fun c h => h.str_inv) (fun c h => h.str_inv) hp) (fun F φ w => RS.mki _ _) (baCompare_calls a b)
theorem sIndexByte_pc (s : ByteArray) (c : Int) : PCp 148 [.c (.str s), .c (.int .u8 c)] [] (.c (.int .i64 (Lib.indexByte s.data.toList c.toNat.toUInt8))) [] := by
 refine fnP Tryz.func148 Tryz.results148 ?_
 conv => whnf
 repeat' (first | (refine  CallX.mk _ _ (by exact slIndexByte_pc _ _) ?_; conv => whnf) | fail)
 exact fini rfl
def cmpS (a b : ByteArray) : Int := Lib.compareBytes a.data.toList b.data.toList
theorem sCompare_pc (a b : ByteArray) : PCp 41 [.c (.str a), .c (.str b)] [] (.c (.int .i64 (cmpS a b))) [] := by
 refine fnP Tryz.func41 Tryz.results41 ?_
 conv => whnf
 repeat' (first | (refine  CallX.mk _ _ (by exact baCompare_pc _ _) ?_; conv => whnf) | fail)
 exact fini rfl
def onlyB (s t : ByteArray) : Bool := decide (∀ i, i < s.size → 0 ≤ Lib.indexByte t.data.toList (byteAt s i).toNat.toUInt8)
theorem only_pc (s t : ByteArray) (hs : s.size ≤ 1000000) : PCp 105 [.c (.str s), .c (.str t)] [] (.c (.bool (onlyB s t))) [] := by
 refine fnP Tryz.func105 Tryz.results105 ?_
 conv => whnf
 refine loop_count (s.size) [] [0, 1, 7, 8] (fun k (_ : Unit) => ⟨[(0, .c (.str s)), (1, .c (.str t)), (7, .c (.int .i64 s.size)), (8, .c (.int .i64 k))], [], 0⟩) (fun k (_ : Unit) => ∀ i, i < k → 0 ≤ Lib.indexByte t.data.toList (byteAt s i).toNat.toUInt8) (()) ?_ ?_ ?_
 ·conv => whnf
  exact ⟨rfl, by simp⟩
 ·intro k _ hk hi
  conv => whnf
  repeat' (first | (refine CondG.mk (fun h => ?_) (fun h => ?_) <;> (try simp only [decide_eq_true_eq, decide_eq_false_iff_not, Bool.not_eq_true', Bool.not_eq_false', beq_iff_eq, beq_eq_false_iff_ne] at h) <;> (first | (exfalso; first | omega | exact h trivial) | (conv => whnf))) | (refine  CallX.mk _ _ (by exact sIndexByte_pc _ _) ?_; conv => whnf) | (refine .mk (by first | omega | (unfold roomOK; simp [cutRows]; done) | (unfold roomOK; simp [cutRows]; omega)) ?_; conv => whnf) | fail)
  ·exact finb (by rw [eq_comm, onlyB, decide_eq_false_iff_not]; intro hh; have h5 := hh k hk; exact absurd h (Int.not_lt.2 h5))
  ·refine count_next () hk (by rw [wrap_succ hk (by omega)]; rfl) ?_
   exact all_succ hi (Int.not_lt.1 h)
 ·intro _ hi
  conv => whnf
  repeat' (first | (refine CondG.mk (fun h => ?_) (fun h => ?_) <;> (try simp only [decide_eq_true_eq, decide_eq_false_iff_not, Bool.not_eq_true', Bool.not_eq_false', beq_iff_eq, beq_eq_false_iff_ne] at h) <;> (first | (exfalso; first | omega | exact h trivial) | (conv => whnf))) | fail)
  exact finb (by rw [eq_comm, onlyB, decide_eq_true_iff]; exact hi)
theorem mapAt {α : Type} {enc : α → List V} {l : List α} {k : Nat} (d : α) (h : k < l.length) : 0 ≤ (k : Int) ∧ (l.map enc)[(k : Int).toNat]? = some (enc (l.getD k d)) := ⟨by omega, by simp [h]⟩
theorem mapAtW {α : Type} {enc : α → List V} {l : List α} {e : Int} {j : Nat} (d : α) (he : e = (j : Int)) (h : j < l.length) : 0 ≤ e ∧ (l.map enc)[e.toNat]? = some (enc (l.getD j d)) := by subst he; exact mapAt d h
def encI (n : Int) : List V := [.int .i64 n]
def encS (s : ByteArray) : List V := [.str s]
def firstErr : List Int → Int
 | [] => 0
 | x :: r => if x = 0 then firstErr r else x
def belowV (x n : Int) : Int := if n < 1 then 0 else if x.tmod n < 0 then x.tmod n + n else x.tmod n
theorem belowV_lt (x n : Int) (h : 1 ≤ n) : 0 ≤ belowV x n ∧ belowV x n < n := by
 have h1 := Int.tmod_lt_of_pos x (show 0 < n by omega)
 have h2 : -n < x.tmod n := by
  have := Int.lt_tmod_of_pos x (show 0 < n by omega)
  omega
 unfold belowV
 rw [if_neg (by omega)]
 split <;> omega
theorem below_pc (x n : Int) (hn : n ≤ 4611686018427387904) : PCp 78 [.c (.int .i64 x), .c (.int .i64 n)] [] (.c (.int .i64 (belowV x n))) [] := by
 refine fnP Tryz.func78 Tryz.results78 ?_
 conv => whnf
 constructor
 ·intro h
  conv => whnf
  have h := of_decide_eq_true h
  exact .mk ⟨by simp [oneOf, belowV, h], rfl⟩
 ·intro h
  have h := of_decide_eq_false h
  conv => whnf
  refine ⟨by omega, ?_⟩
  conv => whnf
  have h1 := Int.tmod_lt_of_pos x (show 0 < n by omega)
  have h2 : -n < x.tmod n := Int.lt_tmod_of_pos x (show 0 < n by omega)
  constructor
  ·intro h3
   have h3 := of_decide_eq_true h3
   conv => whnf
   refine .mk ⟨?_, rfl⟩
   show S.c _ = _
   rw [IntWalk.i64_in _ ⟨by omega, by omega⟩, belowV, if_neg h, if_pos h3]
  ·intro h3
   have h3 := of_decide_eq_false h3
   conv => whnf
   refine .mk ⟨?_, rfl⟩
   show S.c _ = _
   rw [belowV, if_neg h, if_neg h3]
def nextV (L : List Int) (p n : Int) : Int :=
 if L.length = 0 then belowV (IntKind.i64.wrap ((p + 1) * 7919)) n
 else belowV (IntKind.i64.wrap (belowV (L.getD (p.tmod L.length).toNat 0) 1073741824 + IntKind.i64.wrap (IntKind.i64.wrap (p.tdiv L.length) * IntKind.i64.wrap (7919 + p.tmod L.length)))) n
theorem nextV_lt (L : List Int) (p n : Int) (h : 1 ≤ n) : 0 ≤ nextV L p n ∧ nextV L p n < n := by
 unfold nextV
 split <;> exact belowV_lt _ _ h
theorem next_pc (L : List Int) (p n : Int) (hp : 0 ≤ p) (hp2 : p ≤ 1000000000) (hL : L.length ≤ 9223372036854775807) (hn : n ≤ 4611686018427387904) :
  PCp 31 [.c (.ptr 0 0), .c (.int .i64 n)] [.box [.lst 1 (L.map encI), .int .i64 p]] (.c (.int .i64 (nextV L p n))) [.box [.lst 1 (L.map encI), .int .i64 (p + 1)]] := by
 have hw : IntKind.i64.wrap (p + 1) = p + 1 := IntWalk.i64_in _ ⟨by omega, by omega⟩
 have hw2 : IntKind.i64.wrap (p + 1 - 1) = p := by rw [IntWalk.i64_in _ ⟨by omega, by omega⟩]; omega
 refine fnP Tryz.func31 Tryz.results31 ?_
 conv => whnf
 constructor
 ·intro h
  have h0 : L.length = 0 := by simpa using h
  conv => whnf
  refine .mk _ _ (below_pc _ _ hn) ?_
  conv => whnf
  refine .mk ⟨?_, ?_⟩
  ·show S.c _ = _
   rw [nextV, if_pos h0, hw]
  ·show [Ob.box _] = _
   rw [hw]
 ·intro h
  have h0 : ¬ L.length = 0 := by
   have := of_decide_eq_false h
   intro e
   simp [e] at this
  conv => whnf
  have hlen : (((L.map encI).length : Nat) : Int) = (L.length : Int) := by simp
  have hne : ¬ (((L.map encI).length : Nat) : Int) = 0 := by rw [hlen]; omega
  refine ⟨hne, ?_⟩
  conv => whnf
  refine ⟨hne, ?_⟩
  conv => whnf
  have hm : IntKind.i64.wrap (IntKind.i64.wrap (p + 1) - 1) = p := by rw [hw, hw2]
  have hi0 : 0 ≤ p.tmod L.length := Int.tmod_nonneg _ hp
  have hi1 : p.tmod L.length < L.length := Int.tmod_lt_of_pos _ (by omega)
  refine ⟨_, mapAtW (j := (p.tmod L.length).toNat) 0 (by rw [hm, hlen]; omega) (by omega), ?_⟩
  conv => whnf
  refine .mk _ _ (below_pc _ _ (by omega)) ?_
  conv => whnf
  refine .mk _ _ (below_pc _ _ hn) ?_
  conv => whnf
  refine .mk ⟨?_, ?_⟩
  ·show S.c _ = _
   rw [nextV, if_neg h0, hm, hlen]
  ·show [Ob.box _] = _
   rw [hw]
abbrev stO (L : List Int) (p : Int) : Ob := .box [.lst 1 (L.map encI), .int .i64 p]
def pickV (L : List Int) (p : Int) (l : List Int) : Int := l.getD (nextV L p l.length).toNat 0
theorem pick_pc (L : List Int) (p : Int) (l : List Int) (hp : 0 ≤ p) (hp2 : p ≤ 1000000000) (hL : L.length ≤ 9223372036854775807) (h1 : 1 ≤ l.length) (h2 : l.length ≤ 1000000000) :
  PCp 32 [.c (.ptr 0 0), .c (.lst 1 (l.map encI))] [stO L p] (.c (.int .i64 (pickV L p l))) [stO L (p + 1)] := by
 have hlen : (((l.map encI).length : Nat) : Int) = (l.length : Int) := by simp
 have hb := nextV_lt L p l.length (by omega)
 refine fnP Tryz.func32 Tryz.results32 ?_
 conv => whnf
 refine .mk _ _ (next_pc L p _ hp hp2 hL (by rw [hlen]; omega)) ?_
 conv => whnf
 rw [hlen]
 refine ⟨_, mapAtW (j := (nextV L p l.length).toNat) 0 (by omega) (by omega), ?_⟩
 conv => whnf
 exact .mk ⟨rfl, rfl⟩
def rangeV (L : List Int) (p a b : Int) : Int := if b < a then a else a + nextV L p (b - a + 1)
theorem rangeV_in (L : List Int) (p a b : Int) (h : a ≤ b) : a ≤ rangeV L p a b ∧ rangeV L p a b ≤ b := by
 have := nextV_lt L p (b - a + 1) (by omega)
 unfold rangeV
 rw [if_neg (by omega)]
 omega
def small (x : Int) : Prop := -1000000000000 ≤ x ∧ x ≤ 1000000000000
theorem small_lit {n : Int} (h : -1000000 ≤ n ∧ n ≤ 1000000) : small n := by unfold small; omega
theorem range_pc (L : List Int) (p a b : Int) (hp : 0 ≤ p) (hp2 : p ≤ 1000000000) (hL : L.length ≤ 9223372036854775807) (hab : a ≤ b) (ha : small a) (hb : small b) :
  PCp 77 [.c (.ptr 0 0), .c (.int .i64 a), .c (.int .i64 b)] [stO L p] (.c (.int .i64 (rangeV L p a b))) [stO L (p + 1)] := by
 have e1 : IntKind.i64.wrap (b - a) = b - a := IntWalk.i64_in _ (by unfold small at *; omega)
 have e2 : IntKind.i64.wrap (b - a + 1) = b - a + 1 := IntWalk.i64_in _ (by unfold small at *; omega)
 have hn := nextV_lt L p (b - a + 1) (by omega)
 refine fnP Tryz.func77 Tryz.results77 ?_
 conv => whnf
 constructor
 ·intro h
  have h := of_decide_eq_true h
  omega
 ·intro h
  conv => whnf
  rw [e1, e2]
  refine .mk _ _ (next_pc L p _ hp hp2 hL (by unfold small at *; omega)) ?_
  conv => whnf
  refine .mk ⟨?_, rfl⟩
  show S.c _ = _
  rw [IntWalk.i64_in _ (by unfold small at *; omega), rangeV, if_neg (by omega)]
def someV (L : List Int) (p : Int) (l : List ByteArray) : ByteArray := l.getD (nextV L p l.length).toNat default
theorem some_pc (L : List Int) (p : Int) (l : List ByteArray) (hp : 0 ≤ p) (hp2 : p ≤ 1000000000) (hL : L.length ≤ 9223372036854775807) (h1 : 1 ≤ l.length) (h2 : l.length ≤ 1000000000) :
  PCp 5 [.c (.ptr 0 0), .c (.lst 1 (l.map encS))] [stO L p] (.c (.str (someV L p l))) [stO L (p + 1)] := by
 have hlen : (((l.map encS).length : Nat) : Int) = (l.length : Int) := by simp
 have hb := nextV_lt L p l.length (by omega)
 refine fnP Tryz.func5 Tryz.results5 ?_
 conv => whnf
 refine .mk _ _ (next_pc L p _ hp hp2 hL (by rw [hlen]; omega)) ?_
 conv => whnf
 rw [hlen]
 refine ⟨_, mapAtW (j := (nextV L p l.length).toNat) default (by omega) (by omega), ?_⟩
 conv => whnf
 exact .mk ⟨rfl, rfl⟩
theorem flip_pc (L : List Int) (p n : Int) (hp : 0 ≤ p) (hp2 : p ≤ 1000000000) (hL : L.length ≤ 9223372036854775807) (hn : n ≤ 1000000000) :
  PCp 27 [.c (.ptr 0 0), .c (.int .i64 n)] [stO L p] (.c (.bool (nextV L p n == 0))) [stO L (p + 1)] := by
 refine fnP Tryz.func27 Tryz.results27 ?_
 conv => whnf
 refine .mk _ _ (next_pc L p _ hp hp2 hL (by omega)) ?_
 conv => whnf
 exact .mk ⟨rfl, rfl⟩
def StOk (L : List Int) (p : Int) : Prop := L.length ≤ 9223372036854775807 ∧ 0 ≤ p ∧ p ≤ 900000000
theorem next_ok {L : List Int} {p : Int} (h : StOk L p) (n : Int) (hn : n ≤ 1000000000) : PCp 31 [.c (.ptr 0 0), .c (.int .i64 n)] [stO L p] (.c (.int .i64 (nextV L p n))) [stO L (p + 1)] :=
 next_pc L p n h.2.1 (by have := h.2.2; omega) h.1 (by omega)
theorem flip_ok {L : List Int} {p : Int} (h : StOk L p) (n : Int) (hn : n ≤ 1000000000) : PCp 27 [.c (.ptr 0 0), .c (.int .i64 n)] [stO L p] (.c (.bool (nextV L p n == 0))) [stO L (p + 1)] :=
 flip_pc L p n h.2.1 (by have := h.2.2; omega) h.1 hn
theorem pick_ok {L : List Int} {p : Int} (h : StOk L p) (l : List Int) (h1 : 1 ≤ l.length) (h2 : l.length ≤ 1000000000) : PCp 32 [.c (.ptr 0 0), .c (.lst 1 (l.map encI))] [stO L p] (.c (.int .i64 (pickV L p l))) [stO L (p + 1)] :=
 pick_pc L p l h.2.1 (by have := h.2.2; omega) h.1 h1 h2
theorem some_ok {L : List Int} {p : Int} (h : StOk L p) (l : List ByteArray) (h1 : 1 ≤ l.length) (h2 : l.length ≤ 1000000000) : PCp 5 [.c (.ptr 0 0), .c (.lst 1 (l.map encS))] [stO L p] (.c (.str (someV L p l))) [stO L (p + 1)] :=
 some_pc L p l h.2.1 (by have := h.2.2; omega) h.1 h1 h2
theorem range_ok {L : List Int} {p : Int} (h : StOk L p) (a b : Int) (hab : a ≤ b) (ha : small a) (hb : small b) : PCp 77 [.c (.ptr 0 0), .c (.int .i64 a), .c (.int .i64 b)] [stO L p] (.c (.int .i64 (rangeV L p a b))) [stO L (p + 1)] :=
 range_pc L p a b h.2.1 (by have := h.2.2; omega) h.1 hab ha hb
end Go.Proofs.YtkefgcleaalnnaaGreat
namespace Go.Proofs.YtkefgcleaalnnaaGreat
set_option linter.unusedVariables false
set_option linter.unusedSimpArgs false
open Go.ChangeShapes Go.WideShapes Go.ChangeAt Go.RowKit
open Abs
theorem walk_of_pc' {f : Nat} (H : ∀ L : List Int, L.length ≤ 9223372036854775807 → PCp f [.c (.lst 1 (L.map encI))] [] (.c (.bool true)) [])
  (a : Option Addr) (len cap : Nat) (zs : List Int) (w : World) (hg : ∀ g ∈ globs, g.1 < w.heap.size ∧ ∃ cs t f, g.2 cs ∧ w.heap[g.1]? = some (.cells cs t f)) (h : IsRow .i64 w a len cap zs) :
  Calls Tryz.prog f #[.slice a len cap] w fun e w' => e = .returned (.bool true) ∧ Below w.heap.size w w' := by
 have key : ∀ L : List Int, L.length ≤ 9223372036854775807 → RT (fun b => b < w.heap.size) w (.slice a len cap) (.lst 1 (L.map encI)) →
   Calls Tryz.prog f #[.slice a len cap] w fun e w' => e = .returned (.bool true) ∧ Below w.heap.size w w' := by
  intro L hL hrt
  have hc := (H L hL).2 (fun b => b < w.heap.size) (fun _ => none) w #[.slice a len cap] (.cons (.c (.tree hrt)) .nil)
   ⟨fun l o h => by simp [nth] at h, fun l l' o o' b h => by simp [nth] at h, fun l o b h => by simp [nth] at h, fun b h => h, fun l c h => (by simp at h), hg⟩
   (fun l c h => by simp at h)
  refine hc.mono ?_
  rintro e w' ⟨c, F', φ', r0, os0, ⟨e1, e2⟩, rfl, hr, hn⟩
  subst e1 e2
  refine ⟨?_, hn.os, hn.tape, hn.output, hn.size, ?_⟩
  ·cases hr with | c hv => cases hv with | tree ht => cases ht; rfl
  ·intro k hk
   by_cases he : w'.heap[k]? = w.heap[k]?
   ·exact he
   ·obtain ⟨l, o, h1, _⟩ := hn.keep k hk he
    simp [nth] at h1
 rcases h with ⟨rfl, rfl, rfl, rfl⟩ | ⟨x, rfl, hl, hm, hz, hcell, -⟩
 ·exact key [] (by simp) (.lst0 none 0 1 (Nat.zero_le _))
 ·have hm' : cap ≤ 9223372036854775807 := hm
  by_cases h0 : len = 0
  ·subst h0
   exact key [] (by simp) (.lst0 (some x) cap 1 hm)
  ·obtain ⟨h1, h2⟩ := spot_none (hcell 0 (by omega))
   have h2 : x.block < w.heap.size := h2
   obtain ⟨b, o, sp⟩ := x
   have h1 : sp = none := h1
   subst h1
   refine key (zs.take len) (by simp; omega) (.lst b o len cap 1 _ (fun i _ => .int .i64 (zs.getD i 0)) h2 (by simp; omega) hl hm ?_ ?_ ?_)
   ·intro r hr
    obtain ⟨y, _, rfl⟩ := List.mem_map.1 hr
    rfl
   ·intro i j hi hj
    have hj0 : j = 0 := by omega
    subst hj0
    have h6 : (⟨b, o, none⟩ : Addr).add i = ⟨b, o + i, none⟩ := by unfold Addr.add; split <;> simp_all
    have := hcell i (by omega)
    rw [h6] at this
    simpa using this
   ·intro i r j v hr hv
    have hi : i < (zs.take len).length := by
     have := (List.getElem?_eq_some_iff.1 hr).1
     simpa using this
    have hi2 : i < zs.length := by simp at hi; omega
    rw [List.getElem?_map, List.getElem?_eq_getElem hi] at hr
    simp only [Option.map_some, Option.some.injEq] at hr
    subst hr
    cases j with
    | zero =>
     simp only [encI, List.getElem?_cons_zero, Option.some.injEq] at hv
     subst hv
     simp only [List.getElem_take]
     rw [show zs.getD i 0 = zs[i] by simp [hi2]]
     exact .int _ _
    | succ j => simp [encI] at hv
theorem walk_of_pc {f : Nat} (H : ∀ L : List Int, L.length ≤ 9223372036854775807 → PCp f [.c (.lst 1 (L.map encI))] [] (.c (.bool true)) [])
  (hg : globs = []) (a : Option Addr) (len cap : Nat) (zs : List Int) (w : World) (h : IsRow .i64 w a len cap zs) :
  Calls Tryz.prog f #[.slice a len cap] w fun e w' => e = .returned (.bool true) ∧ Below w.heap.size w w' :=
 walk_of_pc' H a len cap zs w (fun g h => by rw [hg] at h; cases h) h
end Go.Proofs.YtkefgcleaalnnaaGreat
namespace Go.Proofs.YtkefgcleaalnnaaGreat
set_option linter.unusedVariables false
set_option linter.unusedSimpArgs false
open Abs
set_option maxHeartbeats 4000000
set_option maxRecDepth 100000
theorem enc_size (n : Int) : (Utf8.encode n).size ≤ 4 := by
 unfold Utf8.encode
 simp only
 repeat' split
 all_goals exact Nat.le_of_ble_eq_true rfl
theorem lab_ok (pre : ByteArray) (n : Int) (h : pre.size ≤ 100) : pre.size + (Utf8.encode n).size ≤ 9223372036854775807 := by have := enc_size n; omega
structure Pc where
 key : ByteArray
 kind : ByteArray
 long : Int
instance : Inhabited Pc := ⟨⟨default, default, 0⟩⟩
def smalls : ByteArray := ⟨#[97, 98, 99, 100, 101, 102, 103, 104, 105, 106, 107, 108, 109, 110, 111, 112, 113, 114, 115, 116, 117, 118, 119, 120, 121, 122]⟩
def keyChars : ByteArray := ⟨#[97, 98, 99, 100, 101, 102, 103, 104, 105, 106, 107, 108, 109, 110, 111, 112, 113, 114, 115, 116, 117, 118, 119, 120, 121, 122, 48, 49, 50, 51, 52, 53, 54, 55, 56, 57, 45, 95]⟩
theorem smalls_ix : ∀ c : Fin 256, decide (0 ≤ Lib.indexByte smalls.data.toList ((c.val : Int).toNat.toUInt8)) = decide (97 ≤ (c.val : Int) ∧ (c.val : Int) ≤ 122) := by decide +kernel
theorem chars_ix : ∀ c : Fin 256, decide (0 ≤ Lib.indexByte keyChars.data.toList ((c.val : Int).toNat.toUInt8)) = isKeyC (c.val : Int) := by decide +kernel
theorem byteAt_lt (s : ByteArray) (i : Nat) : ∃ c : Fin 256, byteAt s i = (c.val : Int) := ⟨⟨(s.data.getD i 0).toNat, UInt8.toNat_lt _⟩, rfl⟩
theorem extract1 (s : ByteArray) (h : 1 ≤ s.size) : (s.extract 0 1).size = 1 ∧ byteAt (s.extract 0 1) 0 = byteAt s 0 := by
 have h1 : (s.extract 0 1).size = 1 := by rw [ByteArray.size_extract]; omega
 refine ⟨h1, ?_⟩
 unfold byteAt
 have h2 : 0 < (s.extract 0 1).data.size := by have : (s.extract 0 1).data.size = 1 := h1; omega
 have h3 : 0 < s.data.size := h
 simp only [Array.getD, h2, h3, dif_pos]
 congr 1
 have : (s.extract 0 1).data = s.data.extract 0 1 := by simp
 simp [this]
theorem keyR_eq (s : ByteArray) (h : 1 ≤ s.size ∧ s.size ≤ 40) : (onlyB (s.extract 0 1) smalls && onlyB s keyChars) = keyB s := by
 obtain ⟨e1, e2⟩ := extract1 s h.1
 rw [Bool.eq_iff_iff, Bool.and_eq_true]
 simp only [onlyB, keyB, decide_eq_true_eq, e1]
 have k1 : (∀ i, i < 1 → 0 ≤ Lib.indexByte smalls.data.toList (byteAt (s.extract 0 1) i).toNat.toUInt8) ↔ (97 ≤ byteAt s 0 ∧ byteAt s 0 ≤ 122) := by
  obtain ⟨c, hc⟩ := byteAt_lt s 0
  have := smalls_ix c
  rw [← hc, decide_eq_decide] at this
  rw [← this, ← e2]
  constructor
  ·intro hh; exact hh 0 (by omega)
  ·intro hh i hi
   have : i = 0 := by omega
   subst this; exact hh
 have k2 : (∀ i, i < s.size → 0 ≤ Lib.indexByte keyChars.data.toList (byteAt s i).toNat.toUInt8) ↔ (∀ i, i < s.size → isKeyC (byteAt s i) = true) := by
  have : ∀ i, 0 ≤ Lib.indexByte keyChars.data.toList (byteAt s i).toNat.toUInt8 ↔ isKeyC (byteAt s i) = true := by
   intro i
   obtain ⟨c, hc⟩ := byteAt_lt s i
   rw [hc, ← chars_ix c, decide_eq_true_eq]
  constructor
  ·intro hh i hi; exact (this i).1 (hh i hi)
  ·intro hh i hi; exact (this i).2 (hh i hi)
 rw [k1, k2]
 constructor
 ·rintro ⟨⟨a, b⟩, c⟩; exact ⟨by omega, by omega, a, b, c⟩
 ·rintro ⟨_, _, a, b, c⟩; exact ⟨⟨a, b⟩, c⟩
theorem rKey_pc (s : ByteArray) : PCp 53 [.c (.str s)] [] (.c (.bool (keyB s))) [] := by
 refine fnP Tryz.func53 Tryz.results53 ?_
 conv => whnf
 repeat' (first | (refine Split.mk (fun h => ?_) (fun h => ?_) <;> (try simp only [decide_eq_true_eq, decide_eq_false_iff_not, Bool.not_eq_true', Bool.not_eq_false', beq_iff_eq, beq_eq_false_iff_ne] at h) <;> (first | (exfalso; first | omega | exact h trivial) | (conv => whnf))) | (refine  CallX.mk _ _ (by exact rIn_pc _ _ _) ?_; conv => whnf) | (refine .mk (by first | omega | (unfold roomOK; simp [cutRows]; done) | (unfold roomOK; simp [cutRows]; omega)) ?_; conv => whnf) | fail)
 ·have hk : 1 ≤ s.size ∧ s.size ≤ 40 := ⟨by omega, by omega⟩
  refine .mk _ _ (only_pc (s.extract 0 1) smalls (by rw [ByteArray.size_extract]; omega)) ?_
  conv => whnf
  repeat' (first | (refine Split.mk (fun h => ?_) (fun h => ?_) <;> (try simp only [decide_eq_true_eq, decide_eq_false_iff_not, Bool.not_eq_true', Bool.not_eq_false', beq_iff_eq, beq_eq_false_iff_ne] at h) <;> (first | (exfalso; first | omega | exact h trivial) | (conv => whnf))) | (refine  CallX.mk _ _ (by exact only_pc s keyChars (by omega)) ?_; conv => whnf) | fail)
  all_goals exact finb (by rw [← keyR_eq s hk]; simp_all)
 ·exact finb (by rw [eq_comm, keyB, decide_eq_false_iff_not]; intro hh; have h1 := hh.1; have h2 := hh.2.1; omega)
def leB (a b : ByteArray) : Bool := Op.bytesLess a.toList b.toList || a.toList == b.toList
theorem leB_nil (s : ByteArray) (h : keyB s = true) : leB s ⟨#[]⟩ = false := by
 have h1 : 0 < s.size := by simp only [keyB, decide_eq_true_eq] at h; exact h.1
 unfold leB
 rw [size_nil, ByteArray.toList_eq, ByteArray.toList_eq]
 have h2 : Op.bytesLess s.data.toList [] = false := by cases s.data.toList <;> rfl
 rw [Bool.or_eq_false_iff]
 exact ⟨h2, decide_eq_false (by omega)⟩
theorem drop_cons {α : Type} {l : List α} {k : Nat} (h : k < l.length) : l.drop k = l[k] :: l.drop (k + 1) := List.drop_eq_getElem_cons h
theorem errs_pc (l : List Int) (hl : l.length ≤ 1000000) : PCp 13 [.c (.lst 1 (l.map encI))] [] (.c (.int .i64 (firstErr l))) [] := by
 have hlm : (l.map encI).length = l.length := List.length_map ..
 refine fnP Tryz.func13 Tryz.results13 ?_
 conv => whnf
 refine loop_count (l.length) [] [5, 6, 7] (fun k (_ : Unit) => ⟨[(5, .c (.lst 1 (l.map encI))), (6, .c (.int .i64 (l.map encI).length)), (7, .c (.int .i64 k))], [], 0⟩) (fun k (_ : Unit) => firstErr (l.drop k) = firstErr l) (()) ?_ ?_ ?_
 ·conv => whnf
  exact ⟨rfl, rfl⟩
 ·intro k _ hk hi
  rw [drop_cons hk, firstErr] at hi
  conv => whnf
  repeat' (first | (refine CondG.mk (fun h => ?_) (fun h => ?_) <;> (try simp only [decide_eq_true_eq, decide_eq_false_iff_not, Bool.not_eq_true', Bool.not_eq_false', beq_iff_eq, beq_eq_false_iff_ne] at h) <;> (first | (exfalso; first | omega | exact h trivial) | (conv => whnf))) | fail)
  refine idx_map k hk rfl ?_
  conv => whnf
  repeat' (first | (refine CondG.mk (fun h => ?_) (fun h => ?_) <;> (try simp only [decide_eq_true_eq, decide_eq_false_iff_not, Bool.not_eq_true', Bool.not_eq_false', beq_iff_eq, beq_eq_false_iff_ne] at h) <;> (first | (exfalso; first | omega | exact h trivial) | (conv => whnf))) | fail)
  ·exact fini (by rw [← hi, if_neg (by simpa using h)])
  ·refine count_next () hk (by rw [wrap_succ hk (by omega)]; rfl) ?_
   rw [← hi, if_pos (by simpa using h)]
 ·intro _ hi
  rw [List.drop_of_length_le (Nat.le_refl _)] at hi
  conv => whnf
  repeat' (first | (refine CondG.mk (fun h => ?_) (fun h => ?_) <;> (try simp only [decide_eq_true_eq, decide_eq_false_iff_not, Bool.not_eq_true', Bool.not_eq_false', beq_iff_eq, beq_eq_false_iff_ne] at h) <;> (first | (exfalso; first | omega | exact h trivial) | (conv => whnf))) | fail)
  exact fini (by rw [← hi]; rfl)
theorem ltL_irr : ∀ a : List UInt8, Op.bytesLess a a = false
 | [] => rfl
 | a :: r => by
  have ih := ltL_irr r
  simp [Op.bytesLess, ih]
theorem ltL_trans : ∀ {a b c : List UInt8}, Op.bytesLess a b = true → Op.bytesLess b c = true → Op.bytesLess a c = true
 | [], [], c, h, h2 => h2
 | [], b :: s, [], h, h2 => by simp [Op.bytesLess] at h2
 | [], b :: s, c :: t, h, h2 => rfl
 | a :: r, [], c, h, h2 => by simp [Op.bytesLess] at h
 | a :: r, b :: s, [], h, h2 => by simp [Op.bytesLess] at h2
 | a :: r, b :: s, c :: t, h, h2 => by
  simp only [Op.bytesLess, Bool.or_eq_true, decide_eq_true_eq, Bool.and_eq_true, beq_iff_eq] at h h2 ⊢
  rcases h with h | ⟨h, h'⟩
  ·rcases h2 with h2 | ⟨h2, h2'⟩
   ·exact .inl (UInt8.lt_trans h h2)
   ·subst h2; exact .inl h
  ·subst h
   rcases h2 with h2 | ⟨h2, h2'⟩
   ·exact .inl h2
   ·exact .inr ⟨h2, ltL_trans h' h2'⟩
theorem ltL_tri : ∀ a b : List UInt8, Op.bytesLess a b = true ∨ a = b ∨ Op.bytesLess b a = true
 | [], [] => .inr (.inl rfl)
 | [], _ :: _ => .inl rfl
 | _ :: _, [] => .inr (.inr rfl)
 | a :: r, b :: s => by
  have ih := ltL_tri r s
  simp only [Op.bytesLess, Bool.or_eq_true, decide_eq_true_eq, Bool.and_eq_true, beq_iff_eq]
  rcases Nat.lt_trichotomy a.toNat b.toNat with h | h | h
  ·exact .inl (.inl (UInt8.lt_iff_toNat_lt.2 h))
  ·have e := UInt8.toNat_inj.1 h
   subst e
   rcases ih with h1 | h1 | h1
   ·exact .inl (.inr ⟨rfl, h1⟩)
   ·exact .inr (.inl (by rw [h1]))
   ·exact .inr (.inr (.inr ⟨rfl, h1⟩))
  ·exact .inr (.inr (.inl (UInt8.lt_iff_toNat_lt.2 h)))
theorem toList_eq' {a b : ByteArray} : a.toList = b.toList ↔ a = b := by
 rw [ByteArray.toList_eq, ByteArray.toList_eq]
 exact ⟨fun h => ByteArray.ext (Array.toList_inj.1 h), fun h => by rw [h]⟩
theorem beqL (a b : ByteArray) : (a.toList == b.toList) = decide (a = b) := by
 rw [Bool.eq_iff_iff, beq_iff_eq, decide_eq_true_eq, toList_eq']
def ltB (a b : ByteArray) : Bool := Op.bytesLess a.toList b.toList
theorem ltB_irr (a : ByteArray) : ltB a a = false := ltL_irr _
theorem ltB_trans {a b c : ByteArray} (h : ltB a b = true) (h2 : ltB b c = true) : ltB a c = true := ltL_trans h h2
theorem ltB_tri (a b : ByteArray) : ltB a b = true ∨ a = b ∨ ltB b a = true := by
 rcases ltL_tri a.toList b.toList with h | h | h
 ·exact .inl h
 ·exact .inr (.inl (toList_eq'.1 h))
 ·exact .inr (.inr h)
theorem ltB_asym {a b : ByteArray} (h : ltB a b = true) : ltB b a = false := by
 cases h2 : ltB b a with
 | false => rfl
 | true => have := ltB_trans h h2; rw [ltB_irr] at this; cases this
theorem ltB_ne {a b : ByteArray} (h : ltB a b = true) : a ≠ b := by
 intro e; subst e; rw [ltB_irr] at h; cases h
theorem leB_iff {a b : ByteArray} : leB a b = true ↔ ltB a b = true ∨ a = b := by
 unfold leB ltB
 rw [Bool.or_eq_true, beq_iff_eq, toList_eq']
theorem leB_not {a b : ByteArray} : leB a b = false ↔ ltB b a = true := by
 constructor
 ·intro h
  have h1 : ¬ (ltB a b = true ∨ a = b) := fun e => by rw [← leB_iff, h] at e; cases e
  rcases ltB_tri a b with h2 | h2 | h2
  ·exact absurd (.inl h2) h1
  ·exact absurd (.inr h2) h1
  ·exact h2
 ·intro h
  cases h2 : leB a b with
  | false => rfl
  | true =>
   rcases leB_iff.1 h2 with h3 | h3
   ·rw [ltB_asym h3] at h; cases h
   ·subst h3; rw [ltB_irr] at h; cases h
theorem cmpL_lt : ∀ a b : List UInt8, Lib.compareBytes a b < 0 ↔ Op.bytesLess a b = true
 | [], [] => by simp [Lib.compareBytes, Op.bytesLess]
 | [], _ :: _ => by simp [Lib.compareBytes, Op.bytesLess]
 | _ :: _, [] => by simp [Lib.compareBytes, Op.bytesLess]
 | a :: r, b :: s => by
  have ih := cmpL_lt r s
  unfold Lib.compareBytes Op.bytesLess
  simp only [Bool.or_eq_true, decide_eq_true_eq, Bool.and_eq_true, beq_iff_eq]
  split
  ·rename_i h; simp [h]
  ·rename_i h
   split
   ·rename_i h2
    simp only [h, false_or]
    constructor
    ·intro h3; omega
    ·rintro ⟨h3, _⟩; subst h3; exact absurd h2 (UInt8.lt_irrefl _)
   ·rename_i h2
    have hab : a = b := by
     rw [UInt8.lt_iff_toNat_lt] at h h2
     exact UInt8.toNat_inj.1 (by omega)
    rw [ih]; simp [h, hab]
theorem cmpL_zero : ∀ a b : List UInt8, Lib.compareBytes a b = 0 ↔ a = b
 | [], [] => by simp [Lib.compareBytes]
 | [], _ :: _ => by simp [Lib.compareBytes]
 | _ :: _, [] => by simp [Lib.compareBytes]
 | x :: xs, y :: ys => by
  have ih := cmpL_zero xs ys
  unfold Lib.compareBytes
  split
  ·rename_i h
   constructor
   ·intro e; cases e
   ·intro e; cases e; exact absurd h (UInt8.lt_irrefl x)
  ·split
   ·rename_i h
    constructor
    ·intro e; cases e
    ·intro e; cases e; exact absurd h (UInt8.lt_irrefl x)
   ·rename_i h1 h2
    have hxy : x = y := by
     rw [UInt8.lt_iff_toNat_lt] at h1 h2
     exact UInt8.toNat_inj.1 (by omega)
    rw [ih, hxy]; simp
theorem cmp_lt {a b : ByteArray} : cmpS a b < 0 ↔ ltB a b = true := by
 unfold cmpS ltB; rw [cmpL_lt, ByteArray.toList_eq, ByteArray.toList_eq]
theorem cmp_zero {a b : ByteArray} : cmpS a b = 0 ↔ a = b := by
 unfold cmpS
 rw [cmpL_zero]
 exact ⟨fun h => ByteArray.ext (Array.toList_inj.1 h), fun h => by rw [h]⟩
instance lawB : LawfulBEq ByteArray where
 eq_of_beq {a b} h := by
  obtain ⟨x⟩ := a
  obtain ⟨y⟩ := b
  have : x = y := eq_of_beq (show (x == y) = true from h)
  rw [this]
 rfl {a} := by
  obtain ⟨x⟩ := a
  exact show (x == x) = true from beq_self_eq_true x
section
variable {α : Type} {key : α → ByteArray}
def Rise (key : α → ByteArray) (l : List α) : Prop := l.Pairwise fun x y => ltB (key x) (key y) = true
theorem Rise.at {l : List α} (h : Rise key l) {i j : Nat} (hij : i < j) (hj : j < l.length) : ltB (key (l[i]'(by omega))) (key l[j]) = true := List.pairwise_iff_getElem.1 h i j (by omega) hj hij
def seqErr (e : Bool → ByteArray → α → Int) (key : α → ByteArray) : Bool → ByteArray → List α → Int
 | _, _, [] => 0
 | f, b, x :: r => if e f b x = 0 then seqErr e key false (key x) r else e f b x
theorem seqErr_first {e : Bool → ByteArray → α → Int} (h : ∀ x, e true ⟨#[]⟩ x = e false ⟨#[]⟩ x) (l : List α) : seqErr e key true ⟨#[]⟩ l = seqErr e key false ⟨#[]⟩ l := by
 cases l with
 | nil => rfl
 | cons x r => simp only [seqErr, h]
theorem seqErr_low {e : Bool → ByteArray → α → Int} (he : ∀ b x, e false b x = 0 → ltB b (key x) = true) : ∀ {l : List α} {b : ByteArray}, seqErr e key false b l = 0 → (∀ x ∈ l, ltB b (key x) = true) ∧ Rise key l
 | [], _, _ => ⟨by simp, List.Pairwise.nil⟩
 | x :: r, b, h => by
  simp only [seqErr] at h
  split at h
  ·rename_i h0
   obtain ⟨h1, h2⟩ := seqErr_low he h
   have h3 := he b x h0
   refine ⟨?_, List.pairwise_cons.2 ⟨h1, h2⟩⟩
   intro y hy
   rcases List.mem_cons.1 hy with rfl | hy
   ·exact h3
   ·exact ltB_trans h3 (h1 y hy)
  ·rename_i h0; exact absurd h h0
theorem seqErr_rise {e : Bool → ByteArray → α → Int} (he : ∀ b x, e false b x = 0 → ltB b (key x) = true) {l : List α} {f : Bool} {b : ByteArray} (h : seqErr e key f b l = 0) : Rise key l := by
 cases l with
 | nil => exact List.Pairwise.nil
 | cons x r =>
  simp only [seqErr] at h
  split at h
  ·obtain ⟨h1, h2⟩ := seqErr_low he h
   exact List.pairwise_cons.2 ⟨h1, h2⟩
  ·rename_i h0; exact absurd h h0
theorem seqErr_all {e : Bool → ByteArray → α → Int} : ∀ {l : List α} {f : Bool} {b : ByteArray}, seqErr e key f b l = 0 → ∀ x ∈ l, ∃ f b, e f b x = 0
 | [], _, _, _, x, hx => by simp at hx
 | y :: r, f, b, h, x, hx => by
  simp only [seqErr] at h
  split at h
  ·rename_i h0
   rcases List.mem_cons.1 hx with rfl | hx
   ·exact ⟨f, b, h0⟩
   ·exact seqErr_all h x hx
  ·rename_i h0; exact absurd h h0
theorem seqErr_drop {e : Bool → ByteArray → α → Int} {l : List α} {k : Nat} {f : Bool} {b : ByteArray} (h : k < l.length) : seqErr e key f b (l.drop k) = if e f b l[k] = 0 then seqErr e key false (key l[k]) (l.drop (k + 1)) else e f b l[k] := by
 rw [List.drop_eq_getElem_cons h, seqErr]
def befK (key : α → ByteArray) (l : List α) (k : Nat) : ByteArray := if k = 0 then ⟨#[]⟩ else match l[k - 1]? with | some x => key x | none => ⟨#[]⟩
theorem befK_succ {l : List α} {k : Nat} (h : k < l.length) : befK key l (k + 1) = key l[k] := by
 unfold befK
 rw [if_neg (by omega), Nat.add_sub_cancel, List.getElem?_eq_getElem h]
theorem befK_pos {l : List α} {k : Nat} (h : k ≤ l.length) (h0 : 0 < k) : befK key l k = key (l[k - 1]'(by omega)) := by
 unfold befK
 rw [if_neg (by omega), List.getElem?_eq_getElem (show k - 1 < l.length by omega)]
end
theorem all_succ' {α : Type} {p : α → Bool} {l : List α} {k : Nat} {hk : k < l.length} (hi : ∀ i (h : i < l.length), i < k → p l[i] = false) (h : p l[k] = false) : ∀ i (h : i < l.length), i < k + 1 → p l[i] = false := by
 intro i hi1 hi2
 rcases Nat.lt_or_ge i k with h3 | h3
 ·exact hi i hi1 h3
 ·have : i = k := by omega
  subst this; exact h
def cntL {α : Type} (c : α → Int) (l : List α) : Nat := (l.takeWhile fun x => decide (c x < 0)).length
def hitL {α : Type} (c : α → Int) (l : List α) : Bool := match l[cntL c l]? with | some x => c x == 0 | none => false
theorem cntL_at {α : Type} {c : α → Int} : ∀ {l : List α} {i : Nat}, i ≤ l.length → (∀ k (h : k < l.length), k < i → c l[k] < 0) → (∀ k (h : k < l.length), i ≤ k → ¬ c l[k] < 0) → cntL c l = i
 | [], i, hi, _, _ => by simp at hi; subst hi; rfl
 | a :: r, i, hi, h1, h2 => by
  unfold cntL
  cases i with
  | zero =>
   have := h2 0 (by simp) (Nat.le_refl _)
   simp only [List.getElem_cons_zero] at this
   simp [List.takeWhile_cons, this]
  | succ i =>
   have h3 := h1 0 (by simp) (by omega)
   simp only [List.getElem_cons_zero] at h3
   have ih := cntL_at (c := c) (l := r) (i := i) (by simpa using hi) (fun k hk hki => by have := h1 (k + 1) (by simpa using hk) (by omega); simpa using this) (fun k hk hki => by have := h2 (k + 1) (by simpa using hk) (by omega); simpa using this)
   simp only [List.takeWhile_cons, h3, decide_true, if_true, List.length_cons]
   unfold cntL at ih
   rw [ih]
theorem mid_eq {i j : Nat} (h : i + j ≤ 4000000) : IntKind.i64.wrap (shV .shr .u64 (IntKind.u64.wrap (IntKind.i64.wrap ((i : Int) + (j : Int)))) 1) = (((i + j) / 2 : Nat) : Int) := by
 have e1 : IntKind.i64.wrap ((i : Int) + (j : Int)) = ((i + j : Nat) : Int) := by rw [wrap_in (by omega) (by omega)]; omega
 have e2 : IntKind.u64.wrap ((i + j : Nat) : Int) = ((i + j : Nat) : Int) := IntWalk.u64_in _ ⟨by omega, by omega⟩
 rw [e1, e2]
 have e3 : shV .shr .u64 ((i + j : Nat) : Int) 1 = (((i + j) / 2 : Nat) : Int) := by
  show Int.fdiv ((i + j : Nat) : Int) 2 = _
  rw [Int.fdiv_eq_ediv_of_nonneg _ (by omega)]; omega
 rw [e3, wrap_in (by omega) (by omega)]
theorem cntL_cons {α : Type} (c : α → Int) (a : α) (r : List α) : cntL c (a :: r) = if c a < 0 then cntL c r + 1 else 0 := by
 unfold cntL
 rw [List.takeWhile_cons]
 by_cases h : c a < 0 <;> simp [h]
theorem find_rise {α : Type} {key : α → ByteArray} {c : α → Int} {k : ByteArray} (hc : ∀ x, (c x < 0 ↔ ltB (key x) k = true) ∧ (c x = 0 ↔ key x = k)) : ∀ {l : List α}, Rise key l → (l.find? fun x => decide (key x = k)) = if hitL c l then l[cntL c l]? else none
 | [], _ => by simp [hitL, cntL]
 | a :: r, h => by
  obtain ⟨h1, h2⟩ := List.pairwise_cons.1 h
  have ih := find_rise hc h2
  by_cases ha : c a < 0
  ·have hne : ¬ key a = k := fun e => by have := (hc a).2.2 e; omega
   have hh : hitL c (a :: r) = hitL c r := by unfold hitL; rw [cntL_cons, if_pos ha, List.getElem?_cons_succ]
   rw [List.find?_cons, hh, cntL_cons, if_pos ha, List.getElem?_cons_succ, ← ih]
   simp [hne]
  ·have hh : hitL c (a :: r) = (c a == 0) := by unfold hitL; rw [cntL_cons, if_neg ha]; rfl
   rw [List.find?_cons, hh, cntL_cons, if_neg ha]
   by_cases h0 : c a = 0
   ·simp [(hc a).2.1 h0, h0]
   ·have hne : ¬ key a = k := fun e => h0 ((hc a).2.2 e)
    have hlt : ltB k (key a) = true := by
     rcases ltB_tri (key a) k with h3 | h3 | h3
     ·exact absurd ((hc a).1.2 h3) ha
     ·exact absurd h3 hne
     ·exact h3
    have hn : r.find? (fun x => decide (key x = k)) = none := by
     rw [List.find?_eq_none]
     intro x hx
     have h3 := ltB_trans hlt (h1 x hx)
     simpa using (ltB_ne h3).symm
    simp [hne, h0, hn]
theorem rise_mono {α : Type} {key : α → ByteArray} {c : α → Int} {k : ByteArray} (hc : ∀ x, c x < 0 ↔ ltB (key x) k = true) {l : List α} (h : Rise key l) : ∀ i j (hj : j < l.length) (hij : i ≤ j), c l[j] < 0 → c (l[i]'(by omega)) < 0 := by
 intro i j hj hij hlt
 rcases Nat.lt_or_ge i j with h1 | h1
 ·exact (hc _).2 (ltB_trans (h.at h1 hj) ((hc _).1 hlt))
 ·have : i = j := by omega
  subst this; exact hlt
theorem rise_nodup {α : Type} {key : α → ByteArray} {l : List α} (h : Rise key l) : (l.map key).Nodup := by
 rw [List.Nodup, List.pairwise_map]
 exact h.imp fun h => ltB_ne h
theorem rise_find {α : Type} {key : α → ByteArray} {l : List α} (h : Rise key l) {x : α} (hx : x ∈ l) : (l.find? fun y => decide (key y = key x)) = some x := by
 induction l with
 | nil => simp at hx
 | cons a r ih =>
  obtain ⟨h1, h2⟩ := List.pairwise_cons.1 h
  rw [List.find?_cons]
  rcases List.mem_cons.1 hx with rfl | hx
  ·simp
  ·have := ltB_ne (h1 x hx)
   simp [this, ih h2 hx]
structure Du where
 key : ByteArray
 a : ByteArray
 b : ByteArray
 long : Int
 inner : Int
def encDu (x : Du) : List V := [.str x.key, .str x.a, .str x.b, .int .i64 x.long, .int .i64 x.inner]
structure Ly where
 cable : ByteArray
 outer : Int
 ducts : List ByteArray
def encLy (x : Ly) : List V := [.str x.cable, .int .i64 x.outer, .lst 1 (x.ducts.map encS)]
def keyErr (has : ByteArray → Bool) (first : Bool) (before k : ByteArray) : Int := if !has k then 8 else if !first && leB k before then 7 else 0
def duErr (first : Bool) (before : ByteArray) (x : Du) : Int :=
 if !keyB x.key || !keyB x.a || !keyB x.b then 5 else if x.a = x.b then 6 else if x.long < 1 ∨ 200000 < x.long ∨ x.inner < 1 ∨ 1000 < x.inner then 1 else if !first && leB x.key before then 7 else 0
def duFault (l : List Du) : Int := if 300 < l.length then 2 else seqErr duErr Du.key true ⟨#[]⟩ l
def duAt (d : List Du) (k : ByteArray) : Option Du := d.find? fun x => decide (x.key = k)
def du0 : Du := ⟨⟨#[]⟩, ⟨#[]⟩, ⟨#[]⟩, 0, 0⟩
def duG (d : List Du) (k : ByteArray) : Du := (duAt d k).getD du0
def hasD (d : List Du) (k : ByteArray) : Bool := (duAt d k).isSome
def cabErr (d : List Du) (x : Ly) : Int :=
 if x.outer < 1 ∨ 1000 < x.outer then 1 else if x.ducts.length = 0 then 8 else if 300 < x.ducts.length then 2 else seqErr (keyErr (hasD d)) id true ⟨#[]⟩ x.ducts
def lyErr (d : List Du) (first : Bool) (before : ByteArray) (x : Ly) : Int :=
 if !keyB x.cable then 5 else if !first && leB x.cable before then 7 else cabErr d x
def lysErr (d : List Du) (l : List Ly) : Int := seqErr (lyErr d) Ly.cable true ⟨#[]⟩ l
def inL (l : List Ly) (k : ByteArray) : List Ly := l.filter fun x => decide (k ∈ x.ducts)
def fullL (d : List Du) (l : List Ly) : Bool := d.any fun x => decide (20 < (inL l x.key).length)
def lyFault (d : List Du) (l : List Ly) : Int := if duFault d ≠ 0 then duFault d else if 300 < l.length then 2 else if lysErr d l ≠ 0 then lysErr d l else if fullL d l then 12 else 0
structure DuOk (d : List Du) : Prop where
 rise : Rise Du.key d
 len : d.length ≤ 300
 each : ∀ x ∈ d, keyB x.key = true ∧ 1 ≤ x.long ∧ x.long ≤ 200000 ∧ 1 ≤ x.inner ∧ x.inner ≤ 1000
theorem duErr_ok {f : Bool} {b : ByteArray} {x : Du} (h : duErr f b x = 0) : keyB x.key = true ∧ 1 ≤ x.long ∧ x.long ≤ 200000 ∧ 1 ≤ x.inner ∧ x.inner ≤ 1000 ∧ (f = false → ltB b x.key = true) := by
 unfold duErr at h
 split at h
 ·omega
 ·split at h
  ·omega
  ·split at h
   ·omega
   ·split at h
    ·omega
    ·rename_i h1 h2 h3 h4
     simp only [Bool.or_eq_true, Bool.not_eq_true', not_or, Bool.not_eq_false] at h1
     refine ⟨h1.1.1, by omega, by omega, by omega, by omega, fun hf => ?_⟩
     subst hf
     simp at h4
     exact leB_not.1 h4
theorem duFault_ok {d : List Du} (h : duFault d = 0) : DuOk d := by
 unfold duFault at h
 split at h
 ·omega
 ·refine ⟨seqErr_rise (fun b x hx => (duErr_ok hx).2.2.2.2.2 rfl) h, by omega, fun x hx => ?_⟩
  obtain ⟨f, b, h1⟩ := seqErr_all h x hx
  have := duErr_ok h1
  exact ⟨this.1, this.2.1, this.2.2.1, this.2.2.2.1, this.2.2.2.2.1⟩
theorem duErr_first (x : Du) : duErr true ⟨#[]⟩ x = duErr false ⟨#[]⟩ x := by
 unfold duErr
 by_cases h : keyB x.key = true
 ·simp [leB_nil _ h]
 ·simp [h]
theorem duAt_some {d : List Du} {k : ByteArray} {x : Du} (h : duAt d k = some x) : x ∈ d ∧ x.key = k := by
 unfold duAt at h
 have h1 := List.find?_some h
 exact ⟨List.mem_of_find?_eq_some h, by simpa using h1⟩
theorem hasD_iff {d : List Du} {k : ByteArray} : hasD d k = true ↔ ∃ x ∈ d, x.key = k := by
 unfold hasD duAt
 rw [List.find?_isSome]; simp
theorem duAt_mem {d : List Du} (h : DuOk d) {x : Du} (hx : x ∈ d) : duAt d x.key = some x := rise_find h.rise hx
theorem duG_mem {d : List Du} (h : DuOk d) {x : Du} (hx : x ∈ d) : duG d x.key = x := by unfold duG; rw [duAt_mem h hx]; rfl
theorem hasD_key {d : List Du} (h : DuOk d) {k : ByteArray} (hk : hasD d k = true) : keyB k = true := by
 obtain ⟨x, hx, rfl⟩ := hasD_iff.1 hk
 exact (h.each x hx).1
theorem keyErr_first {d : List Du} (h : DuOk d) (k : ByteArray) : keyErr (hasD d) true ⟨#[]⟩ k = keyErr (hasD d) false ⟨#[]⟩ k := by
 unfold keyErr
 by_cases hk : hasD d k = true
 ·simp [leB_nil _ (hasD_key h hk)]
 ·simp [hk]
theorem keyErr_ok {has : ByteArray → Bool} {f : Bool} {b k : ByteArray} (h : keyErr has f b k = 0) : has k = true ∧ (f = false → ltB b k = true) := by
 unfold keyErr at h
 split at h
 ·omega
 ·split at h
  ·omega
  ·rename_i h1 h2
   refine ⟨by simpa using h1, fun hf => ?_⟩
   subst hf
   simp at h2
   exact leB_not.1 h2
structure LyX (d : List Du) (x : Ly) : Prop where
 out : 1 ≤ x.outer ∧ x.outer ≤ 1000
 len : x.ducts.length ≤ 300
 rise : Rise id x.ducts
 has : ∀ k ∈ x.ducts, hasD d k = true
theorem lyErr_ok {d : List Du} {f : Bool} {b : ByteArray} {x : Ly} (h : lyErr d f b x = 0) : LyX d x ∧ keyB x.cable = true ∧ (f = false → ltB b x.cable = true) := by
 unfold lyErr cabErr at h
 split at h
 ·omega
 ·split at h
  ·omega
  ·split at h
   ·omega
   ·split at h
    ·omega
    ·split at h
     ·omega
     ·rename_i h1 h2 h3 h4 h5
      refine ⟨⟨by omega, by omega, seqErr_rise (fun b k hk => (keyErr_ok hk).2 rfl) h, fun k hk => ?_⟩, by simpa using h1, fun hf => ?_⟩
      ·obtain ⟨f, b, h1⟩ := seqErr_all h k hk
       exact (keyErr_ok h1).1
      ·subst hf
       simp at h2
       exact leB_not.1 h2
theorem lyErr_first {d : List Du} (x : Ly) : lyErr d true ⟨#[]⟩ x = lyErr d false ⟨#[]⟩ x := by
 unfold lyErr
 by_cases h : keyB x.cable = true
 ·simp [leB_nil _ h]
 ·simp [h]
structure LyOk (d : List Du) (l : List Ly) : Prop where
 du : DuOk d
 len : l.length ≤ 300
 rise : Rise Ly.cable l
 each : ∀ x ∈ l, LyX d x
 few : ∀ x ∈ d, (inL l x.key).length ≤ 20
theorem lysErr_ok {d : List Du} {l : List Ly} (h : lysErr d l = 0) : Rise Ly.cable l ∧ ∀ x ∈ l, LyX d x := by
 refine ⟨seqErr_rise (fun b x hx => (lyErr_ok hx).2.2 rfl) h, fun x hx => ?_⟩
 obtain ⟨f, b, h1⟩ := seqErr_all h x hx
 exact (lyErr_ok h1).1
theorem lyFault_ok {d : List Du} {l : List Ly} (h : lyFault d l = 0) : LyOk d l := by
 unfold lyFault at h
 split at h
 ·omega
 ·split at h
  ·omega
  ·split at h
   ·omega
   ·split at h
    ·omega
    ·rename_i h1 h2 h3 h4
     obtain ⟨h5, h6⟩ := lysErr_ok (show lysErr d l = 0 by omega)
     refine ⟨duFault_ok (by omega), by omega, h5, h6, fun x hx => ?_⟩
     unfold fullL at h4
     rw [List.any_eq_true] at h4
     rcases Nat.lt_or_ge 20 (inL l x.key).length with h7 | h7
     ·exact absurd ⟨x, hx, by simpa using h7⟩ h4
     ·exact h7
theorem count_nd {k : ByteArray} : ∀ {l : List ByteArray}, l.Nodup → l.count k = if k ∈ l then 1 else 0
 | [], _ => by simp
 | a :: r, h => by
  obtain ⟨h1, h2⟩ := List.nodup_cons.1 h
  rw [List.count_cons, count_nd h2]
  by_cases e : a = k
  ·subst e; simp [h1]
  ·have e' : ¬ k = a := fun x => e x.symm
   simp [e, e']
theorem flat_count {d : List Du} {k : ByteArray} : ∀ {l : List Ly}, (∀ x ∈ l, LyX d x) → (l.flatMap Ly.ducts).count k = (inL l k).length
 | [], _ => by simp [inL]
 | a :: r, h => by
  have ih := flat_count (k := k) (l := r) (fun x hx => h x (by simp [hx]))
  have hn : a.ducts.Nodup := by have := rise_nodup (h a (by simp)).rise; simpa using this
  rw [List.flatMap_cons, List.count_append, ih, count_nd hn]
  unfold inL
  rw [List.filter_cons]
  by_cases e : k ∈ a.ducts <;> simp [e]; omega
def manyB (ks : List ByteArray) : Bool := ks.any fun k => decide (20 < ks.count k)
theorem many_full {d : List Du} {l : List Ly} (h : ∀ x ∈ l, LyX d x) : manyB (l.flatMap Ly.ducts) = fullL d l := by
 rw [Bool.eq_iff_iff]
 unfold manyB fullL
 rw [List.any_eq_true, List.any_eq_true]
 constructor
 ·rintro ⟨k, hk, h1⟩
  obtain ⟨x, hx, hkx⟩ := List.mem_flatMap.1 hk
  obtain ⟨y, hy, rfl⟩ := hasD_iff.1 ((h x hx).has k hkx)
  refine ⟨y, hy, ?_⟩
  rw [flat_count h] at h1; exact h1
 ·rintro ⟨x, hx, h1⟩
  rw [← flat_count h] at h1
  have h2 : 20 < (l.flatMap Ly.ducts).count x.key := by simpa using h1
  exact ⟨x.key, List.count_pos_iff.1 (by omega), h1⟩
theorem many_push (ks : List ByteArray) (k : ByteArray) : manyB (ks ++ [k]) = (manyB ks || decide (20 < ks.count k + 1)) := by
 rw [Bool.eq_iff_iff, Bool.or_eq_true]
 unfold manyB
 rw [List.any_eq_true, List.any_eq_true]
 simp only [decide_eq_true_eq, List.count_append]
 constructor
 ·rintro ⟨x, hx, h⟩
  by_cases e : x = k
  ·subst e; right; simpa using h
  ·left
   have : [k].count x = 0 := by rw [List.count_eq_zero]; simpa using e
   rw [this] at h
   refine ⟨x, ?_, by omega⟩
   exact List.count_pos_iff.1 (by omega)
 ·rintro (⟨x, hx, h⟩ | h)
  ·exact ⟨x, by simp [hx], by omega⟩
  ·exact ⟨k, by simp, by simpa using h⟩
theorem sum_take {α : Type} (f : α → Int) (l : List α) (k : Nat) (h : k < l.length) : ((l.take (k + 1)).map f).sum = ((l.take k).map f).sum + f l[k] := by
 rw [List.take_succ_eq_append_getElem h, List.map_append, List.sum_append]; simp
theorem sum_in {α : Type} {f : α → Int} {B : Int} : ∀ {l : List α}, (∀ x ∈ l, 0 ≤ f x ∧ f x ≤ B) → 0 ≤ (l.map f).sum ∧ (l.map f).sum ≤ B * l.length
 | [], _ => by simp
 | x :: r, h => by
  have h1 := h x (by simp)
  have ih := sum_in (l := r) (fun y hy => h y (by simp [hy]))
  simp only [List.map_cons, List.sum_cons, List.length_cons]
  have : B * ((r.length + 1 : Nat) : Int) = B * r.length + B := by rw [Int.natCast_add, Int.mul_add]; simp
  omega
def sqV (l : List Int) : Int := (l.map fun x => x * x).sum
def partV (n : Nat) : Int := if n = 1 then 53 else if n = 2 then 31 else 40
def roomB (inner : Int) (l : List Int) : Bool := decide (100 * sqV l ≤ partV l.length * inner * inner) && !(l.any fun n => decide (inner < n))
def mostV (inner : Int) (all : List Int) (outer : Int) : Nat → Nat
 | 0 => 0
 | n + 1 => if roomB inner (all ++ List.replicate (n + 1) outer) then n + 1 else mostV inner all outer n
theorem sq_in {l : List Int} (h : ∀ x ∈ l, 0 ≤ x ∧ x ≤ 1000) : 0 ≤ sqV l ∧ sqV l ≤ 1000000 * l.length := by
 refine sum_in fun x hx => ?_
 have := h x hx
 exact ⟨Int.mul_nonneg this.1 this.1, by have := Int.mul_le_mul this.2 this.2 this.1 (by omega : (0 : Int) ≤ 1000); omega⟩
def outV (l : List Ly) (k : ByteArray) : List Int := (inL l k).map Ly.outer
def maxV : List Int → Int
 | [] => 0
 | a :: r => r.foldl (fun m x => if m < x then x else m) a
theorem foldl_max_le {b : Int} : ∀ (r : List Int) (a : Int), r.foldl (fun m x => if m < x then x else m) a ≤ b ↔ a ≤ b ∧ ∀ x ∈ r, x ≤ b
 | [], a => by simp
 | y :: r, a => by
  rw [List.foldl_cons, foldl_max_le r]
  simp only [List.mem_cons]
  constructor
  ·rintro ⟨h1, h2⟩
   refine ⟨by split at h1 <;> omega, ?_⟩
   rintro x (rfl | hx)
   ·split at h1 <;> omega
   ·exact h2 x hx
  ·rintro ⟨h1, h2⟩
   refine ⟨?_, fun x hx => h2 x (.inr hx)⟩
   have := h2 y (.inl rfl)
   split <;> omega
theorem maxV_le {l : List Int} (h : l ≠ []) {b : Int} : decide (maxV l ≤ b) = !(l.any fun n => decide (b < n)) := by
 cases l with
 | nil => exact absurd rfl h
 | cons a r =>
  rw [Bool.eq_iff_iff, decide_eq_true_eq, maxV, foldl_max_le, Bool.not_eq_true', List.any_eq_false]
  simp only [decide_eq_true_eq, List.mem_cons]
  constructor
  ·rintro ⟨h1, h2⟩ x (rfl | hx)
   ·omega
   ·have := h2 x hx; omega
  ·intro h1
   exact ⟨by have := h1 a (.inl rfl); omega, fun x hx => by have := h1 x (.inr hx); omega⟩
theorem find_idx {α : Type} (p : α → Bool) : ∀ l : List α, l.find? p = l[l.findIdx p]?
 | [] => by simp
 | a :: r => by
  rw [List.find?_cons, List.findIdx_cons]
  cases h : p a <;> simp [find_idx p r]
end Go.Proofs.YtkefgcleaalnnaaGreat
namespace Go.Proofs.YtkefgcleaalnnaaGreat
set_option linter.unusedVariables false
set_option linter.unusedSimpArgs false
namespace Abs
section
variable {κ β : Type} [DecidableEq κ]
theorem SM.get_of {s : SM κ β} (h : s.ok) {e : Nat × κ × β} (he : e ∈ s.es) : s.get e.2.1 = some e.2.2 := by
 have hk := h.kn
 unfold SM.get SM.m at *
 generalize s.es = es at he hk
 clear h
 induction es with
 | nil => cases he
 | cons a r ih =>
  simp only [List.map_cons, List.nodup_cons] at hk
  rcases List.mem_cons.1 he with rfl | he
  ·simp [mget]
  ·have hne : ¬ a.2.1 = e.2.1 := by
    intro h2
    exact hk.1 (by rw [h2]; exact List.mem_map.2 ⟨e.2, List.mem_map.2 ⟨e, he, rfl⟩, rfl⟩)
   have := ih he hk.2
   simpa [mget, List.find?_cons, hne] using this
theorem SM.mem_of {s : SM κ β} {x : κ} {y : β} (h : s.get x = some y) : ∃ n, (n, x, y) ∈ s.es := by
 unfold SM.get SM.m at h
 generalize s.es = es at h
 induction es with
 | nil => simp [mget] at h
 | cons a r ih =>
  by_cases hx : a.2.1 = x
  ·have hy : a.2.2 = y := by simpa [mget, List.find?_cons, hx] using h
   exact ⟨a.1, by rw [← hx, ← hy]; simp⟩
  ·obtain ⟨n, hn⟩ := ih (by simpa [mget, List.find?_cons, hx] using h)
   exact ⟨n, by simp [hn]⟩
omit [DecidableEq κ] in
theorem SM.keys_nd {s : SM κ β} (h : s.ok) : (s.es.map (·.2.1)).Nodup := by
 have := h.kn
 rw [SM.m, List.map_map] at this
 exact this
end
end Abs
end Go.Proofs.YtkefgcleaalnnaaGreat
namespace Go.Proofs.YtkefgcleaalnnaaGreat
set_option linter.unusedVariables false
set_option linter.unusedSimpArgs false
open Abs
set_option maxHeartbeats 4000000
set_option maxRecDepth 100000
def Du.at (x : Du) (s : ByteArray) : Prop := x.a = s ∨ x.b = s
instance (x : Du) (s : ByteArray) : Decidable (x.at s) := by unfold Du.at; infer_instance
def atL (ds : List Du) (k : Nat) (s : ByteArray) : List Nat := (List.range k).filter fun i => decide ((ds.getD i du0).at s)
theorem atL_mem {ds : List Du} {k i : Nat} {s : ByteArray} : i ∈ atL ds k s ↔ i < k ∧ (ds.getD i du0).at s := by simp [atL]
theorem atL_nd (ds : List Du) (k : Nat) (s : ByteArray) : (atL ds k s).Nodup := List.Nodup.sublist List.filter_sublist List.nodup_range
theorem atL_len (ds : List Du) (k : Nat) (s : ByteArray) : (atL ds k s).length ≤ k := by
 have := List.length_filter_le (fun i => decide ((ds.getD i du0).at s)) (List.range k)
 rw [List.length_range] at this
 exact this
theorem atL_succ (ds : List Du) (k : Nat) (s : ByteArray) : atL ds (k + 1) s = atL ds k s ++ (if (ds.getD k du0).at s then [k] else []) := by
 unfold atL
 rw [List.range_succ, List.filter_append]
 congr 1
 by_cases h : (ds.getD k du0).at s
 ·rw [if_pos h]; exact List.filter_cons_of_pos (by simpa using h)
 ·rw [if_neg h]; exact List.filter_cons_of_neg (by simpa using h)
structure PathOf (ds : List Du) (s : Nat → ByteArray) (ix : Nat → Nat) : Prop where
 pos : 0 < ds.length
 ixl : ∀ j, j < ds.length → ix j < ds.length
 ixi : ∀ i j, i < ds.length → j < ds.length → ix i = ix j → i = j
 si : ∀ i j, i ≤ ds.length → j ≤ ds.length → s i = s j → i = j
 ends : ∀ j, j < ds.length → ((ds.getD (ix j) du0).a = s j ∧ (ds.getD (ix j) du0).b = s (j + 1)) ∨ ((ds.getD (ix j) du0).a = s (j + 1) ∧ (ds.getD (ix j) du0).b = s j)
section
variable {ds : List Du} {s : Nat → ByteArray} {ix : Nat → Nat}
theorem PathOf.onto (h : PathOf ds s ix) {i : Nat} (hi : i < ds.length) : ∃ j, j < ds.length ∧ ix j = i := by
 refine Classical.byContradiction fun hc => ?_
 have hnd : (i :: (List.range ds.length).map ix).Nodup := by
  rw [List.nodup_cons]
  refine ⟨fun hm => ?_, ?_⟩
  ·obtain ⟨j, hj, e⟩ := List.mem_map.1 hm
   exact hc ⟨j, List.mem_range.1 hj, e⟩
  ·rw [List.nodup_iff_pairwise_ne, List.pairwise_map]
   refine List.Pairwise.imp_of_mem ?_ List.nodup_range
   intro a b ha hb hne e
   exact hne (h.ixi a b (List.mem_range.1 ha) (List.mem_range.1 hb) e)
 have := nodup_sub_len (m := List.range ds.length) hnd (fun x hx => by
  rcases List.mem_cons.1 hx with rfl | hx
  ·exact List.mem_range.2 hi
  ·obtain ⟨j, hj, rfl⟩ := List.mem_map.1 hx
   exact List.mem_range.2 (h.ixl j (List.mem_range.1 hj)))
 simp at this
 omega
theorem PathOf.rev (h : PathOf ds s ix) : PathOf ds (fun j => s (ds.length - j)) (fun j => ix (ds.length - 1 - j)) where
 pos := h.pos
 ixl j hj := h.ixl _ (by omega)
 ixi i j hi hj e := by have := h.ixi _ _ (by omega) (by omega) e; omega
 si i j hi hj e := by have := h.si _ _ (by omega) (by omega) e; omega
 ends j hj := by
  have := h.ends (ds.length - 1 - j) (by omega)
  rw [show ds.length - 1 - j + 1 = ds.length - j by omega] at this
  rw [show ds.length - (j + 1) = ds.length - 1 - j by omega]
  exact this.symm
theorem PathOf.at_iff (h : PathOf ds s ix) {i j : Nat} (hj : j ≤ ds.length) (hi : i < ds.length) : (ds.getD (ix i) du0).at (s j) ↔ i = j ∨ i + 1 = j := by
 have he := h.ends i hi
 unfold Du.at
 constructor
 ·intro hat
  rcases he with ⟨e1, e2⟩ | ⟨e1, e2⟩
  ·rw [e1, e2] at hat
   rcases hat with q | q
   ·exact .inl (h.si _ _ (by omega) hj q)
   ·exact .inr (h.si _ _ (by omega) hj q)
  ·rw [e1, e2] at hat
   rcases hat with q | q
   ·exact .inr (h.si _ _ (by omega) hj q)
   ·exact .inl (h.si _ _ (by omega) hj q)
 ·rintro (rfl | rfl)
  ·rcases he with ⟨e1, e2⟩ | ⟨e1, e2⟩
   ·exact .inl e1
   ·exact .inr e2
  ·rcases he with ⟨e1, e2⟩ | ⟨e1, e2⟩
   ·exact .inr e2
   ·exact .inl e1
theorem PathOf.site (h : PathOf ds s ix) {t : ByteArray} (ht : atL ds ds.length t ≠ []) : ∃ j, j ≤ ds.length ∧ s j = t := by
 obtain ⟨i, hi⟩ := List.exists_mem_of_ne_nil _ ht
 obtain ⟨hi, hat⟩ := atL_mem.1 hi
 obtain ⟨j, hj, rfl⟩ := h.onto hi
 rcases h.ends j hj with ⟨e1, e2⟩ | ⟨e1, e2⟩ <;> rcases hat with q | q
 ·exact ⟨j, by omega, e1.symm.trans q⟩
 ·exact ⟨j + 1, by omega, e2.symm.trans q⟩
 ·exact ⟨j + 1, by omega, e1.symm.trans q⟩
 ·exact ⟨j, by omega, e2.symm.trans q⟩
theorem PathOf.le2 (h : PathOf ds s ix) {j : Nat} (hj : j ≤ ds.length) : (atL ds ds.length (s j)).length ≤ 2 := by
 refine nodup_sub_len (m := [ix j, ix (j - 1)]) (atL_nd _ _ _) fun x hx => ?_
 obtain ⟨hx, hat⟩ := atL_mem.1 hx
 obtain ⟨i, hi, rfl⟩ := h.onto hx
 rcases (h.at_iff hj hi).1 hat with rfl | e
 ·simp
 ·rw [show j - 1 = i by omega]; simp
theorem PathOf.one (h : PathOf ds s ix) {j : Nat} (hj : j ≤ ds.length) : (atL ds ds.length (s j)).length = 1 ↔ j = 0 ∨ j = ds.length := by
 have hp := h.pos
 constructor
 ·intro h1
  refine Classical.byContradiction fun hc => ?_
  have hnd : [ix j, ix (j - 1)].Nodup := by
   simp only [List.nodup_cons, List.mem_singleton, List.not_mem_nil, not_false_eq_true, List.nodup_nil, and_true]
   intro e
   have := h.ixi _ _ (by omega) (by omega) e
   omega
  have := nodup_sub_len (m := atL ds ds.length (s j)) hnd (fun x hx => by
   simp only [List.mem_cons, List.not_mem_nil, or_false] at hx
   rcases hx with rfl | rfl
   ·exact atL_mem.2 ⟨h.ixl _ (by omega), (h.at_iff hj (by omega)).2 (.inl rfl)⟩
   ·exact atL_mem.2 ⟨h.ixl _ (by omega), (h.at_iff hj (by omega)).2 (.inr (by omega))⟩)
  simp at this
  omega
 ·intro h1
  have hle : (atL ds ds.length (s j)).length ≤ 1 := by
   refine nodup_sub_len (m := [ix (if j = 0 then 0 else j - 1)]) (atL_nd _ _ _) fun x hx => ?_
   obtain ⟨hx, hat⟩ := atL_mem.1 hx
   obtain ⟨i, hi, rfl⟩ := h.onto hx
   have := (h.at_iff hj hi).1 hat
   simp only [List.mem_singleton]
   congr 1
   split <;> omega
  have hge : ix (if j = 0 then 0 else j - 1) ∈ atL ds ds.length (s j) := by
   refine atL_mem.2 ⟨h.ixl _ (by split <;> omega), (h.at_iff hj (by split <;> omega)).2 ?_⟩
   split <;> omega
  have := List.length_pos_iff.2 (List.ne_nil_of_mem hge)
  omega
theorem PathOf.ne (h : PathOf ds s ix) {j : Nat} (hj : j ≤ ds.length) : atL ds ds.length (s j) ≠ [] := by
 have hp := h.pos
 have hge : ix (if j = 0 then 0 else j - 1) ∈ atL ds ds.length (s j) := by
  refine atL_mem.2 ⟨h.ixl _ (by split <;> omega), (h.at_iff hj (by split <;> omega)).2 ?_⟩
  split <;> omega
 exact List.ne_nil_of_mem hge
theorem PathOf.sites (h : PathOf ds s ix) {l : List ByteArray} (hl : l.Nodup) (hm : ∀ t, t ∈ l ↔ atL ds ds.length t ≠ []) : l.length = ds.length + 1 := by
 have h1 : l.length ≤ ((List.range (ds.length + 1)).map s).length := nodup_sub_len hl fun t ht => by
  obtain ⟨j, hj, rfl⟩ := h.site ((hm t).1 ht)
  exact List.mem_map.2 ⟨j, List.mem_range.2 (by omega), rfl⟩
 have hnd : ((List.range (ds.length + 1)).map s).Nodup := by
  rw [List.nodup_iff_pairwise_ne, List.pairwise_map]
  refine List.Pairwise.imp_of_mem ?_ List.nodup_range
  intro a b ha hb hne e
  rw [List.mem_range] at ha hb
  exact hne (h.si a b (by omega) (by omega) e)
 have h2 := nodup_sub_len (m := l) hnd fun t ht => by
  obtain ⟨j, hj, rfl⟩ := List.mem_map.1 ht
  rw [List.mem_range] at hj
  exact (hm _).2 (h.ne (by omega))
 simp at h1 h2
 omega
end
inductive PV where
 | no
 | inn (i : Nat) (c : Value)
 | row (q : Nat)
structure AtInv (ds : List Du) (k : Nat) (M : SM ByteArray PV) (ins : List (Value × Option (List (List V)))) : Prop where
 ok : M.ok
 has : ∀ s, (M.get s).isSome ↔ atL ds k s ≠ []
 ent : ∀ s v, M.get s = some v → ∃ i c, v = .inn i c ∧ ins[i]? = some (c, some ((atL ds k s).map fun j => [.int .i64 (j : Int)]))
 inj : ∀ s s' i c c', M.get s = some (.inn i c) → M.get s' = some (.inn i c') → s = s'
theorem AtInv.begin (ds : List Du) : AtInv ds 0 SM.nil [] where
 ok := SM.ok_nil
 has s := by simp [SM.get_nil, atL]
 ent s v h := by rw [SM.get_nil] at h; cases h
 inj s s' i c c' h := by rw [SM.get_nil] at h; cases h
theorem eput_two {κ β : Type} [DecidableEq κ] {cl : Nat} : ∀ (es : List (Nat × κ × β)) (x : κ) (y z : β), (eput cl es x y).length = (eput cl es x z).length ∧ ∀ (j : Nat) (e : Nat × κ × β), (eput cl es x y)[j]? = some e → (eput cl es x z)[j]? = some e ∨ (e.2 = (x, y) ∧ (eput cl es x z)[j]? = some (e.1, x, z))
 | [], x, y, z => by
  refine ⟨rfl, fun j e h => ?_⟩
  cases j with
  | zero => simp [eput] at h; subst h; exact .inr ⟨rfl, by simp [eput]⟩
  | succ j => simp [eput] at h
 | f :: r, x, y, z => by
  obtain ⟨h1, h2⟩ := eput_two (cl := cl) r x y z
  by_cases q : f.2.1 = x
  ·refine ⟨by simp [eput, q], fun j e h => ?_⟩
   cases j with
   | zero => simp [eput, q] at h; subst h; exact .inr ⟨rfl, by simp [eput, q]⟩
   | succ j => simp [eput, q] at h ⊢; exact .inl h
  ·refine ⟨by simp [eput, q, h1], fun j e h => ?_⟩
   cases j with
   | zero => simp [eput, q] at h ⊢; exact .inl h
   | succ j => simp [eput, q] at h ⊢; exact h2 j e h
structure Ed where
 key : ByteArray
 a : ByteArray
 b : ByteArray
 long : Int
 cap : Int
def encEd (e : Ed) : List V := [.str e.key, .str e.a, .str e.b, .int .i64 e.long, .int .i64 e.cap]
def Ed.at (e : Ed) (s : ByteArray) : Prop := e.a = s ∨ e.b = s
def Ed.oth (e : Ed) (s : ByteArray) : ByteArray := if e.a = s then e.b else e.a
abbrev Co := Int × Int
def coLt (c d : Co) : Prop := c.1 < d.1 ∨ c.1 = d.1 ∧ c.2 < d.2
instance (c d : Co) : Decidable (coLt c d) := by unfold coLt; infer_instance
def coP (c : Co) (e : Ed) : Co := (c.1 + e.long, c.2 + 1)
theorem coLt_irr (c : Co) : ¬ coLt c c := by unfold coLt; omega
theorem coLt_tr {a b c : Co} (h : coLt a b) (h2 : coLt b c) : coLt a c := by unfold coLt at *; omega
theorem coLe_tr {a b c : Co} (h : ¬ coLt b a) (h2 : ¬ coLt c b) : ¬ coLt c a := by unfold coLt at *; omega
theorem coP_lt (c : Co) (e : Ed) (h : 1 ≤ e.long) : coLt c (coP c e) := by unfold coLt coP; simp only; omega
abbrev CM := SM ByteArray Co
def EdsOk (E : List Ed) : Prop := ∀ e ∈ E, e.a ≠ e.b ∧ 1 ≤ e.long ∧ e.long ≤ 200000
theorem oth_at {e : Ed} {s : ByteArray} (h : e.at s) : e.at (e.oth s) := by
 unfold Ed.oth
 split
 ·exact .inr rfl
 ·exact .inl rfl
theorem oth_oth {e : Ed} {s : ByteArray} (h : e.at s) (hne : e.a ≠ e.b) : e.oth (e.oth s) = s := by
 unfold Ed.at at h
 unfold Ed.oth
 by_cases h1 : e.a = s
 ·rw [if_pos h1, if_neg hne]; exact h1
 ·rw [if_neg h1, if_pos rfl]
  rcases h with h | h
  ·exact absurd h h1
  ·exact h
structure Dij (E : List Ed) (to : ByteArray) (S : List ByteArray) (done open_ : CM) : Prop where
 dok : done.ok
 ook : open_.ok
 apart : ∀ s, (done.get s).isSome → open_.get s = none
 start : done.get to = some (0, 0) ∨ (open_.get to = some (0, 0) ∧ done.es = [])
 first : ∀ s c, done.get s = some c ∨ open_.get s = some c → s ≠ to → ∃ e ∈ E, e.at s ∧ ∃ c', done.get (e.oth s) = some c' ∧ c = coP c' e
 low : ∀ s c t d, done.get s = some c → open_.get t = some d → ¬ coLt d c
 relax : ∀ s c, done.get s = some c → ∀ e ∈ E, e.at s → ∃ d, (done.get (e.oth s) = some d ∨ open_.get (e.oth s) = some d) ∧ ¬ coLt (coP c e) d
 bound : ∀ s c, done.get s = some c ∨ open_.get s = some c → 0 ≤ c.1 ∧ c.1 ≤ 200000 * (done.es.length : Int) ∧ 0 ≤ c.2 ∧ c.2 ≤ done.es.length
 inS : ∀ s, (done.get s).isSome ∨ (open_.get s).isSome → s ∈ S
structure DijE (E : List Ed) (to : ByteArray) (S : List ByteArray) (at_ : ByteArray) (now : Co) (k : Nat) (done open_ : CM) : Prop where
 dok : done.ok
 ook : open_.ok
 apart : ∀ s, (done.get s).isSome → open_.get s = none
 start : done.get to = some (0, 0)
 here : done.get at_ = some now
 first : ∀ s c, done.get s = some c ∨ open_.get s = some c → s ≠ to → ∃ e ∈ E, e.at s ∧ ∃ c', done.get (e.oth s) = some c' ∧ c = coP c' e
 top : ∀ s c, done.get s = some c → ¬ coLt now c
 low : ∀ t d, open_.get t = some d → ¬ coLt d now
 relax : ∀ s c, done.get s = some c → s ≠ at_ → ∀ e ∈ E, e.at s → ∃ d, (done.get (e.oth s) = some d ∨ open_.get (e.oth s) = some d) ∧ ¬ coLt (coP c e) d
 now_ : ∀ i (h : i < E.length), i < k → E[i].at at_ → ∃ d, (done.get (E[i].oth at_) = some d ∨ open_.get (E[i].oth at_) = some d) ∧ ¬ coLt (coP now E[i]) d
 bound : ∀ s c, done.get s = some c ∨ open_.get s = some c → 0 ≤ c.1 ∧ c.1 ≤ 200000 * (done.es.length : Int) ∧ 0 ≤ c.2 ∧ c.2 ≤ done.es.length
 bnow : now.1 ≤ 200000 * ((done.es.length : Int) - 1) ∧ now.2 ≤ (done.es.length : Int) - 1
 inS : ∀ s, (done.get s).isSome ∨ (open_.get s).isSome → s ∈ S
theorem get_put_s {m : CM} {x y : ByteArray} {c d : Co} : (m.put x c).get y = some d ↔ (x = y ∧ c = d) ∨ (x ≠ y ∧ m.get y = some d) := by
 rw [SM.get_put]
 by_cases h : x = y
 ·simp [h]
 ·simp [h]
theorem get_del_s {m : CM} (hm : m.ok) {x y : ByteArray} {d : Co} : (m.del x).get y = some d ↔ x ≠ y ∧ m.get y = some d := by
 rw [SM.get_del hm]
 by_cases h : x = y
 ·simp [h]
 ·simp [h]
theorem put_new_len {m : CM} {x : ByteArray} {c : Co} (h : m.get x = none) : (m.put x c).es.length = m.es.length + 1 := by
 have := eput_born (c := m.clock) (es := m.es) (x := x) (y := c)
 rw [if_neg (by show ¬ ((m.get x).isSome = true); rw [h]; simp)] at this
 have := congrArg List.length this
 simpa [SM.put] using this
theorem Dij.begin (E : List Ed) (to : ByteArray) (S : List ByteArray) (hS : to ∈ S) : Dij E to S SM.nil (SM.nil.put to (0, 0)) where
 dok := SM.ok_nil
 ook := SM.ok_nil.put _ _
 apart s h := by rw [SM.get_nil] at h; cases h
 start := .inr ⟨by rw [get_put_s]; exact .inl ⟨rfl, rfl⟩, rfl⟩
 first s c h hne := by
  rcases h with h | h
  ·rw [SM.get_nil] at h; cases h
  ·rw [get_put_s] at h
   rcases h with ⟨h, _⟩ | ⟨_, h⟩
   ·exact absurd h.symm hne
   ·rw [SM.get_nil] at h; cases h
 low s c t d h := by rw [SM.get_nil] at h; cases h
 relax s c h := by rw [SM.get_nil] at h; cases h
 bound s c h := by
  rcases h with h | h
  ·rw [SM.get_nil] at h; cases h
  ·rw [get_put_s] at h
   rcases h with ⟨_, h⟩ | ⟨_, h⟩
   ·subst h; simp [SM.nil]
   ·rw [SM.get_nil] at h; cases h
 inS s h := by
  rcases h with h | h
  ·rw [SM.get_nil] at h; cases h
  ·obtain ⟨d, hd⟩ := Option.isSome_iff_exists.1 h
   rw [get_put_s] at hd
   rcases hd with ⟨h, _⟩ | ⟨_, h⟩
   ·rw [← h]; exact hS
   ·rw [SM.get_nil] at h; cases h
theorem Dij.take {E : List Ed} {to : ByteArray} {S : List ByteArray} {done open_ : CM} (h : Dij E to S done open_) {at_ : ByteArray} {now : Co} (ha : open_.get at_ = some now) (hmin : ∀ t d, open_.get t = some d → ¬ coLt d now) :
  DijE E to S at_ now 0 (done.put at_ now) (open_.del at_) := by
 have hn : done.get at_ = none := by
  cases e : done.get at_ with
  | none => rfl
  | some c => have := h.apart at_ (by rw [e]; rfl); rw [ha] at this; cases this
 have hl := put_new_len (c := now) hn
 have both : ∀ s c, (done.put at_ now).get s = some c ∨ (open_.del at_).get s = some c → done.get s = some c ∨ open_.get s = some c := by
  intro s c hs
  rw [get_put_s, get_del_s h.ook] at hs
  rcases hs with (⟨e, e2⟩ | ⟨_, e⟩) | ⟨_, e⟩
  ·subst e e2; exact .inr ha
  ·exact .inl e
  ·exact .inr e
 have keep : ∀ s c, done.get s = some c → (done.put at_ now).get s = some c := by
  intro s c hs
  rw [get_put_s]
  right
  exact ⟨fun e => (by rw [← e, hn] at hs; cases hs), hs⟩
 have keep2 : ∀ s d, (done.get s = some d ∨ open_.get s = some d) → ((done.put at_ now).get s = some d ∨ (open_.del at_).get s = some d) := by
  intro s d hs
  rcases hs with hs | hs
  ·exact .inl (keep s d hs)
  ·by_cases e : at_ = s
   ·subst e
    rw [ha] at hs; cases hs
    exact .inl (get_put_s.2 (.inl ⟨rfl, rfl⟩))
   ·exact .inr ((get_del_s h.ook).2 ⟨e, hs⟩)
 refine ⟨h.dok.put _ _, h.ook.del _, ?_, ?_, get_put_s.2 (.inl ⟨rfl, rfl⟩), ?_, ?_, ?_, ?_, ?_, ?_, ?_, ?_⟩
 ·intro s hs
  obtain ⟨c, hc⟩ := Option.isSome_iff_exists.1 hs
  rw [get_put_s] at hc
  rw [SM.get_del h.ook]
  rcases hc with ⟨e, _⟩ | ⟨e, e2⟩
  ·rw [if_pos e]
  ·rw [if_neg e]; exact h.apart s (by rw [e2]; rfl)
 ·rcases h.start with e | ⟨e, e2⟩
  ·exact keep _ _ e
  ·have : at_ = to := by
    by_cases q : at_ = to
    ·exact q
    ·exfalso
     obtain ⟨e', _, _, c', hc', _⟩ := h.first at_ now (.inr ha) q
     have : done.get (e'.oth at_) = none := by unfold SM.get SM.m; rw [e2]; rfl
     rw [this] at hc'; cases hc'
   subst this
   rw [ha] at e; cases e
   exact get_put_s.2 (.inl ⟨rfl, rfl⟩)
 ·intro s c hs hne
  obtain ⟨e, he, h1, c', h2, h3⟩ := h.first s c (both s c hs) hne
  exact ⟨e, he, h1, c', keep _ _ h2, h3⟩
 ·intro s c hs
  rw [get_put_s] at hs
  rcases hs with ⟨_, e⟩ | ⟨_, e⟩
  ·subst e; exact coLt_irr _
  ·exact h.low s c at_ now e ha
 ·intro t d ht
  rw [get_del_s h.ook] at ht
  exact hmin t d ht.2
 ·intro s c hs hne e he hes
  rw [get_put_s] at hs
  rcases hs with ⟨e1, _⟩ | ⟨_, e1⟩
  ·exact absurd e1.symm hne
  ·obtain ⟨d, hd, hd2⟩ := h.relax s c e1 e he hes
   exact ⟨d, keep2 _ _ hd, hd2⟩
 ·intro i hi hk; omega
 ·intro s c hs
  have := h.bound s c (both s c hs)
  rw [hl]
  push_cast
  omega
 ·have := h.bound at_ now (.inr ha)
  rw [hl]
  push_cast
  omega
 ·intro s hs
  have : (done.get s).isSome ∨ (open_.get s).isSome := by
   rcases hs with hs | hs
   ·obtain ⟨c, hc⟩ := Option.isSome_iff_exists.1 hs
    rcases both s c (.inl hc) with e | e
    ·exact .inl (by rw [e]; rfl)
    ·exact .inr (by rw [e]; rfl)
   ·obtain ⟨c, hc⟩ := Option.isSome_iff_exists.1 hs
    rcases both s c (.inr hc) with e | e
    ·exact .inl (by rw [e]; rfl)
    ·exact .inr (by rw [e]; rfl)
  exact h.inS s this
theorem DijE.skip {E : List Ed} {to : ByteArray} {S : List ByteArray} {at_ : ByteArray} {now : Co} {k : Nat} {done open_ : CM} (h : DijE E to S at_ now k done open_) (hE : EdsOk E) (hk : k < E.length)
  (hs : E[k].at at_ → (done.get (E[k].oth at_)).isSome ∨ ∃ d, open_.get (E[k].oth at_) = some d ∧ ¬ coLt (coP now E[k]) d) : DijE E to S at_ now (k + 1) done open_ := by
 refine { h with now_ := fun i hi hik hat => ?_ }
 by_cases e : i = k
 ·subst e
  rcases hs hat with g | ⟨d, g1, g2⟩
  ·obtain ⟨c, hc⟩ := Option.isSome_iff_exists.1 g
   exact ⟨c, .inl hc, fun q => h.top _ _ hc (coLt_tr (coP_lt now E[i] (hE _ (List.getElem_mem hk)).2.1) q)⟩
  ·exact ⟨d, .inr g1, g2⟩
 ·exact h.now_ i hi (by omega) hat
theorem DijE.more {E : List Ed} {to : ByteArray} {S : List ByteArray} {at_ : ByteArray} {now : Co} {k : Nat} {done open_ : CM} (h : DijE E to S at_ now k done open_) (hE : EdsOk E) (hS : ∀ e ∈ E, e.a ∈ S ∧ e.b ∈ S) (hk : k < E.length)
  (hat : E[k].at at_) (hd : done.get (E[k].oth at_) = none) (ho : ∀ d, open_.get (E[k].oth at_) = some d → coLt (coP now E[k]) d) : DijE E to S at_ now (k + 1) done (open_.put (E[k].oth at_) (coP now E[k])) := by
 have hem := List.getElem_mem hk
 have hlt := coP_lt now E[k] (hE _ hem).2.1
 have step : ∀ t d, open_.get t = some d → ∃ d', (open_.put (E[k].oth at_) (coP now E[k])).get t = some d' ∧ ¬ coLt d d' := by
  intro t d ht
  by_cases e : E[k].oth at_ = t
  ·refine ⟨coP now E[k], get_put_s.2 (.inl ⟨e, rfl⟩), ?_⟩
   have := ho d (by rw [e]; exact ht)
   intro q
   exact coLt_irr _ (coLt_tr this q)
  ·exact ⟨d, get_put_s.2 (.inr ⟨e, ht⟩), coLt_irr _⟩
 have step2 : ∀ t d, (done.get t = some d ∨ open_.get t = some d) → ∃ d', (done.get t = some d' ∨ (open_.put (E[k].oth at_) (coP now E[k])).get t = some d') ∧ ¬ coLt d d' := by
  intro t d ht
  rcases ht with ht | ht
  ·exact ⟨d, .inl ht, coLt_irr _⟩
  ·obtain ⟨d', h1, h2⟩ := step t d ht
   exact ⟨d', .inr h1, h2⟩
 refine ⟨h.dok, h.ook.put _ _, ?_, h.start, h.here, ?_, h.top, ?_, ?_, ?_, ?_, h.bnow, ?_⟩
 ·intro s hs
  rw [SM.get_put, if_neg (fun e => by rw [← e, hd] at hs; cases hs)]
  exact h.apart s hs
 ·intro s c hs hne
  rw [get_put_s] at hs
  rcases hs with hs | ⟨e, e2⟩ | ⟨_, hs⟩
  ·exact h.first s c (.inl hs) hne
  ·subst e e2
   exact ⟨E[k], hem, oth_at hat, now, by rw [oth_oth hat (hE _ hem).1]; exact h.here, rfl⟩
  ·exact h.first s c (.inr hs) hne
 ·intro t d ht
  rw [get_put_s] at ht
  rcases ht with ⟨_, e⟩ | ⟨_, e⟩
  ·subst e; exact fun q => coLt_irr _ (coLt_tr hlt q)
  ·exact h.low t d e
 ·intro s c hs hne e he hes
  obtain ⟨d, g1, g2⟩ := h.relax s c hs hne e he hes
  obtain ⟨d', g3, g4⟩ := step2 _ d g1
  exact ⟨d', g3, coLe_tr g4 g2⟩
 ·intro i hi hik hia
  by_cases e : i = k
  ·subst e
   exact ⟨_, .inr (get_put_s.2 (.inl ⟨rfl, rfl⟩)), coLt_irr _⟩
  ·obtain ⟨d, g1, g2⟩ := h.now_ i hi (by omega) hia
   obtain ⟨d', g3, g4⟩ := step2 _ d g1
   exact ⟨d', g3, coLe_tr g4 g2⟩
 ·intro s c hs
  rw [get_put_s] at hs
  rcases hs with hs | ⟨_, e2⟩ | ⟨_, hs⟩
  ·exact h.bound s c (.inl hs)
  ·subst e2
   have h1 := h.bound at_ now (.inl h.here)
   have h2 := h.bnow
   have h3 := (hE _ hem).2
   unfold coP
   simp only
   omega
  ·exact h.bound s c (.inr hs)
 ·intro s hs
  rcases hs with hs | hs
  ·exact h.inS s (.inl hs)
  ·obtain ⟨d, hd2⟩ := Option.isSome_iff_exists.1 hs
   rw [get_put_s] at hd2
   rcases hd2 with ⟨e, _⟩ | ⟨_, e⟩
   ·rw [← e]
    have := hS _ hem
    unfold Ed.oth
    split
    ·exact this.2
    ·exact this.1
   ·exact h.inS s (.inr (by rw [e]; rfl))
theorem DijE.over {E : List Ed} {to : ByteArray} {S : List ByteArray} {at_ : ByteArray} {now : Co} {done open_ : CM} (h : DijE E to S at_ now E.length done open_) : Dij E to S done open_ := by
 refine ⟨h.dok, h.ook, h.apart, .inl h.start, h.first, fun s c t d hs ht => coLe_tr (h.top s c hs) (h.low t d ht), ?_, h.bound, h.inS⟩
 intro s c hs e he hes
 by_cases q : s = at_
 ·subst q
  rw [h.here] at hs; cases hs
  obtain ⟨i, hi, rfl⟩ := List.mem_iff_getElem.1 he
  exact h.now_ i hi hi hes
 ·exact h.relax s c hs q e he hes
structure Costs (E : List Ed) (to : ByteArray) (S : List ByteArray) (g : CM) : Prop where
 ok : g.ok
 start : g.get to = some (0, 0)
 first : ∀ s c, g.get s = some c → s ≠ to → ∃ e ∈ E, e.at s ∧ ∃ c', g.get (e.oth s) = some c' ∧ c = coP c' e
 relax : ∀ s c, g.get s = some c → ∀ e ∈ E, e.at s → ∃ d, g.get (e.oth s) = some d ∧ ¬ coLt (coP c e) d
 bound : ∀ s c, g.get s = some c → 0 ≤ c.1 ∧ c.1 ≤ 200000 * (g.es.length : Int) ∧ 0 ≤ c.2 ∧ c.2 ≤ g.es.length
 inS : ∀ s, (g.get s).isSome → s ∈ S
theorem keys_ok {m : CM} (h : m.ok) : (m.es.map (·.2.1)).Nodup := by
 have := h.kn
 simpa [SM.m, List.map_map, Function.comp_def] using this
theorem mem_get {m : CM} (hm : m.ok) {n : Nat} {x : ByteArray} {c : Co} (h : (n, x, c) ∈ m.es) : m.get x = some c := by
 have hk := keys_ok hm
 unfold SM.get SM.m mget
 generalize m.es = es at *
 clear hm
 induction es with
 | nil => cases h
 | cons e r ih =>
  rw [List.map_cons, List.nodup_cons] at hk
  rcases List.mem_cons.1 h with e1 | e1
  ·subst e1; simp
  ·have : e.2.1 ≠ x := fun q => hk.1 (by rw [q]; exact List.mem_map.2 ⟨_, e1, rfl⟩)
   rw [List.map_cons, List.find?_cons]
   simp only [beq_iff_eq, this, decide_false, Bool.false_eq_true, ↓reduceIte]
   simpa [this] using ih e1 hk.2
theorem get_mem {m : CM} {x : ByteArray} {c : Co} (h : m.get x = some c) : ∃ n, (n, x, c) ∈ m.es := by
 unfold SM.get SM.m mget at h
 cases hf : (m.es.map (·.2)).find? (fun p => decide (p.1 = x)) with
 | none => simp [hf] at h
 | some p =>
  have h1 := List.mem_of_find?_eq_some hf
  have h2 := List.find?_some hf
  obtain ⟨q, hq, rfl⟩ := List.mem_map.1 h1
  simp only [hf, Option.map_some, Option.some.injEq] at h
  refine ⟨q.1, ?_⟩
  have h3 : q.2.1 = x := by simpa using h2
  rw [← h3, ← h]; exact hq
theorem map_len {m : CM} (hm : m.ok) {S : List ByteArray} (h : ∀ s, (m.get s).isSome → s ∈ S) : m.es.length ≤ S.length := by
 have := nodup_sub_len (keys_ok hm) (m := S) (fun x hx => by
  obtain ⟨e, he, rfl⟩ := List.mem_map.1 hx
  exact h _ (by rw [mem_get hm (n := e.1) (c := e.2.2) he]; rfl))
 simpa using this
theorem Dij.over {E : List Ed} {to : ByteArray} {S : List ByteArray} {done open_ : CM} (h : Dij E to S done open_) (ho : open_.es = []) : Costs E to S done := by
 have hn : ∀ s, open_.get s = none := fun s => by unfold SM.get SM.m; rw [ho]; rfl
 refine ⟨h.dok, ?_, fun s c hs => h.first s c (.inl hs), ?_, fun s c hs => h.bound s c (.inl hs), fun s hs => h.inS s (.inl hs)⟩
 ·rcases h.start with e | ⟨e, _⟩
  ·exact e
  ·rw [hn] at e; cases e
 ·intro s c hs e he hes
  obtain ⟨d, g1 | g1, g2⟩ := h.relax s c hs e he hes
  ·exact ⟨d, g1, g2⟩
  ·rw [hn] at g1; cases g1
theorem Dij.len {E : List Ed} {to : ByteArray} {S : List ByteArray} {done open_ : CM} (h : Dij E to S done open_) : done.es.length ≤ S.length := map_len h.dok fun s hs => h.inS s (.inl hs)
def nbE (g : CM) (s : ByteArray) (now : Co) (e : Ed) : Bool := decide (e.a = s ∨ e.b = s) && (match g.get (e.oth s) with | some c => decide (coP c e = now) | none => false)
theorem nbE_iff {g : CM} {s : ByteArray} {now : Co} {e : Ed} : nbE g s now e = true ↔ e.at s ∧ ∃ c, g.get (e.oth s) = some c ∧ coP c e = now := by
 unfold nbE Ed.at
 cases h : g.get (e.oth s) with
 | none => simp
 | some c => simp
inductive FW (E : List Ed) (g : CM) (to fr : ByteArray) : ByteArray → Co → List Ed → Prop
 | nil {c : Co} : g.get fr = some c → FW E g to fr fr c []
 | snoc {s : ByteArray} {c c' : Co} {P : List Ed} (i : Nat) (h : i < E.length) : FW E g to fr s c P → s ≠ to → nbE g s c E[i] = true → (∀ j (hj : j < E.length), j < i → nbE g s c E[j] = false) → g.get (E[i].oth s) = some c' → FW E g to fr (E[i].oth s) c' (P ++ [E[i]])
def sumLg : List Ed → Int
 | [] => 0
 | e :: r => e.long + sumLg r
theorem sumLg_app : ∀ a b : List Ed, sumLg (a ++ b) = sumLg a + sumLg b
 | [], b => by simp [sumLg]
 | e :: r, b => by simp only [List.cons_append, sumLg, sumLg_app r b]; omega
section
variable {E : List Ed} {g : CM} {to fr : ByteArray}
theorem FW.get {s : ByteArray} {c : Co} {P : List Ed} (h : FW E g to fr s c P) : g.get s = some c := by
 cases h with
 | nil h => exact h
 | snoc i h _ _ _ _ h2 => exact h2
theorem FW.sub {s : ByteArray} {c : Co} {P : List Ed} (h : FW E g to fr s c P) : ∀ e ∈ P, e ∈ E := by
 induction h with
 | nil => intro e he; cases he
 | snoc i hi _ _ _ _ _ ih =>
  intro e he
  rcases List.mem_append.1 he with h | h
  ·exact ih e h
  ·rw [List.mem_singleton] at h; subst h; exact List.getElem_mem hi
theorem FW.sum {s : ByteArray} {c : Co} {P : List Ed} (h : FW E g to fr s c P) : ∃ c0, g.get fr = some c0 ∧ c0.1 = sumLg P + c.1 ∧ c0.2 = (P.length : Int) + c.2 := by
 induction h with
 | nil h => exact ⟨_, h, by simp [sumLg], by simp⟩
 | @snoc s c c' P i hi _ _ hn _ hg ih =>
  obtain ⟨c0, h1, h2, h3⟩ := ih
  obtain ⟨_, d, hd, hd2⟩ := nbE_iff.1 hn
  rw [hg] at hd; cases hd
  refine ⟨c0, h1, ?_, ?_⟩
  ·rw [sumLg_app, h2, ← hd2]
   simp only [sumLg, coP]; omega
  ·rw [h3, ← hd2]
   simp only [coP, List.length_append, List.length_cons, List.length_nil]
   push_cast; omega
theorem Costs.next {S : List ByteArray} (h : Costs E to S g) {s : ByteArray} {c : Co} (hs : g.get s = some c) (hne : s ≠ to) : ∃ i, ∃ hi : i < E.length, nbE g s c E[i] = true ∧ (∀ j (hj : j < E.length), j < i → nbE g s c E[j] = false) ∧ ∃ c', g.get (E[i].oth s) = some c' ∧ c = coP c' E[i] := by
 obtain ⟨e, he, h1, c', h2, h3⟩ := h.first s c hs hne
 obtain ⟨k, hk, rfl⟩ := List.mem_iff_getElem.1 he
 have hex : ∃ i, ∃ hi : i < E.length, nbE g s c E[i] = true := ⟨k, hk, nbE_iff.2 ⟨h1, c', h2, h3.symm⟩⟩
 have hmin : ∀ n, (∃ i, i < n ∧ ∃ hi : i < E.length, nbE g s c E[i] = true) → ∃ i, ∃ hi : i < E.length, nbE g s c E[i] = true ∧ ∀ j (hj : j < E.length), j < i → nbE g s c E[j] = false := by
  intro n
  induction n with
  | zero => rintro ⟨i, h, _⟩; omega
  | succ n ih =>
   rintro ⟨i, h, hi, hb⟩
   by_cases q : ∃ i, i < n ∧ ∃ hi : i < E.length, nbE g s c E[i] = true
   ·exact ih q
   ·have : i = n := by
     rcases Nat.lt_or_ge i n with e | e
     ·exact absurd ⟨i, e, hi, hb⟩ q
     ·omega
    subst this
    refine ⟨i, hi, hb, fun j hj hji => ?_⟩
    cases e : nbE g s c E[j] with
    | false => rfl
    | true => exact absurd ⟨j, hji, hj, e⟩ q
 obtain ⟨i, hi, hb, hf⟩ := hmin (k + 1) ⟨k, by omega, hk, nbE_iff.2 ⟨h1, c', h2, h3.symm⟩⟩
 obtain ⟨_, c2, g1, g2⟩ := nbE_iff.1 hb
 exact ⟨i, hi, hb, hf, c2, g1, g2.symm⟩
theorem Costs.len {S : List ByteArray} (h : Costs E to S g) : g.es.length ≤ S.length := map_len h.ok h.inS
theorem FW.few {S : List ByteArray} (h : Costs E to S g) {s : ByteArray} {c : Co} {P : List Ed} (hf : FW E g to fr s c P) : P.length ≤ S.length := by
 obtain ⟨c0, h1, _, h3⟩ := hf.sum
 have h4 := h.bound fr c0 h1
 have h5 := h.bound s c hf.get
 have h6 := h.len
 omega
inductive Sites : List Ed → ByteArray → ByteArray → List ByteArray → Prop
 | nil (s : ByteArray) : Sites [] s s [s]
 | snoc {P : List Ed} {fr s : ByteArray} {L : List ByteArray} {e : Ed} : Sites P fr s L → e.at s → Sites (P ++ [e]) fr (e.oth s) (e.oth s :: L)
theorem FW.sites (hE : EdsOk E) {s : ByteArray} {c : Co} {P : List Ed} (h : FW E g to fr s c P) : ∃ L, Sites P fr s L ∧ L.Nodup ∧ (∀ x ∈ L, ∃ d, g.get x = some d ∧ ¬ coLt d c) ∧ L.length = P.length + 1 := by
 induction h with
 | nil h => exact ⟨_, .nil _, by simp, fun x hx => by rw [List.mem_singleton] at hx; subst hx; exact ⟨_, h, coLt_irr _⟩, rfl⟩
 | @snoc s c c' P i hi _ _ hn _ hg ih =>
  obtain ⟨L, h1, h2, h3, h4⟩ := ih
  obtain ⟨hat, d, hd, hd2⟩ := nbE_iff.1 hn
  rw [hg] at hd; cases hd
  have hlt : coLt c' c := by rw [← hd2]; exact coP_lt c' E[i] (hE _ (List.getElem_mem hi)).2.1
  refine ⟨_, .snoc h1 hat, List.nodup_cons.2 ⟨fun hm => ?_, h2⟩, ?_, by simp [h4]⟩
  ·obtain ⟨d, q1, q2⟩ := h3 _ hm
   rw [hg] at q1; cases q1
   exact q2 hlt
  ·intro x hx
   rcases List.mem_cons.1 hx with e | e
   ·subst e; exact ⟨_, hg, coLt_irr _⟩
   ·obtain ⟨d, q1, q2⟩ := h3 x e
    exact ⟨d, q1, fun q => q2 (coLt_tr q hlt)⟩
end
def idxP {α : Type} (p : α → Bool) (l : List α) : Int := if l.any p then (l.findIdx p : Int) else -1
theorem idxP_hit {α : Type} {p : α → Bool} {l : List α} {k : Nat} (hk : k < l.length) (h : ∀ i (hi : i < k), p (l[i]'(by omega)) = false) (hp : p l[k] = true) : idxP p l = k := by
 have h1 : l.any p = true := List.any_eq_true.2 ⟨_, List.getElem_mem hk, hp⟩
 have h2 : l.findIdx p = k := by
  rw [List.findIdx_eq hk]
  exact ⟨hp, fun j hj => by simpa using h j hj⟩
 rw [idxP, if_pos h1, h2]
theorem idxP_miss {α : Type} {p : α → Bool} {l : List α} (h : ∀ i (hi : i < l.length), p l[i] = false) : idxP p l = -1 := by
 have h1 : ¬ l.any p = true := by
  rw [List.any_eq_true]
  rintro ⟨x, hx, hp⟩
  obtain ⟨i, hi, rfl⟩ := List.getElem_of_mem hx
  rw [h i hi] at hp; cases hp
 rw [idxP, if_neg h1]
theorem idxP_any {α : Type} (p : α → Bool) (l : List α) : decide (0 ≤ idxP p l) = l.any p := by
 unfold idxP
 cases l.any p <;> simp
theorem toList_inj {a b : ByteArray} (h : a.toList = b.toList) : a = b := by
 rw [ByteArray.toList_eq, ByteArray.toList_eq] at h
 exact ByteArray.ext (Array.toList_inj.1 h)
end Go.Proofs.YtkefgcleaalnnaaGreat
namespace Go.Proofs.YtkefgcleaalnnaaGreat
set_option linter.unusedVariables false
set_option linter.unusedSimpArgs false
namespace Abs
structure ForG4 {A B C D : Type} (m n : Nat) (ow : List Own) (cs : List Nat) (σ0 : St) (body : St → (Exit → St → Prop) → Prop) (Q : Exit → St → Prop) (st : Nat → A → B → C → D → St) (Inv : Nat → A → B → C → D → Prop) (a0 : A) (b0 : B) (c0 : C) (d0 : D) : Prop where
 init : σ0 = st 0 a0 b0 c0 d0
 inv : Inv 0 a0 b0 c0 d0
 step : ∀ k a b c d, k < n → Inv k a b c d → body (st k a b c d) fun e σ' => match e with | .normal => norm m ow cs σ' fun σ'' => ∃ j, j < n - k ∧ CountI n (fun k (p : A × B × C × D) => st k p.1 p.2.1 p.2.2.1 p.2.2.2) (fun k p => Inv k p.1 p.2.1 p.2.2.1 p.2.2.2) j σ'' | e => Q e σ'
 fin : ∀ a b c d, Inv n a b c d → body (st n a b c d) fun e σ' => match e with | .normal => norm m ow cs σ' fun σ'' => ∃ j, j < n - n ∧ CountI n (fun k (p : A × B × C × D) => st k p.1 p.2.1 p.2.2.1 p.2.2.2) (fun k p => Inv k p.1 p.2.1 p.2.2.1 p.2.2.2) j σ'' | e => Q e σ'
theorem loop_for4 {m : Nat} {σ : St} {body : St → (Exit → St → Prop) → Prop} {Q : Exit → St → Prop} {A B C D : Type} (n : Nat) (ow : List Own) (cs : List Nat) (fr : Nat → A → B → C → D → List (Nat × S)) (hp : Nat → A → B → C → D → List (Nat × Ob)) (Inv : Nat → A → B → C → D → Prop) (a0 : A) (b0 : B) (c0 : C) (d0 : D)
  (h : norm m ow cs σ fun σ0 => forceStF σ0 fun σ0 => ForG4 m n ow cs σ0 body Q (fun k a b c d => ovr σ0 (fr k a b c d) (hp k a b c d)) Inv a0 b0 c0 d0) : LoopG m σ body Q :=
 loop_for n ow cs (fun k (p : A × B × C × D) => fr k p.1 p.2.1 p.2.2.1 p.2.2.2) (fun k p => hp k p.1 p.2.1 p.2.2.1 p.2.2.2) (fun k p => Inv k p.1 p.2.1 p.2.2.1 p.2.2.2) (a0, b0, c0, d0) (norm_mono (fun σ h => by rw [forceStF_eq] at h ⊢; exact ⟨h.init, h.inv, fun k p => h.step k p.1 p.2.1 p.2.2.1 p.2.2.2, fun p => h.fin p.1 p.2.1 p.2.2.1 p.2.2.2⟩) h)
structure WhileG4 {A B C D : Type} (m : Nat) (ow : List Own) (cs : List Nat) (σ0 : St) (body : St → (Exit → St → Prop) → Prop) (Q : Exit → St → Prop) (μ : A → B → C → D → Nat) (st : A → B → C → D → St) (Inv : A → B → C → D → Prop) (a0 : A) (b0 : B) (c0 : C) (d0 : D) : Prop where
 init : σ0 = st a0 b0 c0 d0
 inv : Inv a0 b0 c0 d0
 step : ∀ a b c d, Inv a b c d → body (st a b c d) fun e σ' => match e with | .normal => norm m ow cs σ' fun σ'' => ∃ j, j < μ a b c d ∧ MeasI (fun p : A × B × C × D => μ p.1 p.2.1 p.2.2.1 p.2.2.2) (fun p => st p.1 p.2.1 p.2.2.1 p.2.2.2) (fun p => Inv p.1 p.2.1 p.2.2.1 p.2.2.2) j σ'' | e => Q e σ'
theorem loop_while4 {m : Nat} {σ : St} {body : St → (Exit → St → Prop) → Prop} {Q : Exit → St → Prop} {A B C D : Type} (μ : A → B → C → D → Nat) (ow : List Own) (cs : List Nat) (fr : A → B → C → D → List (Nat × S)) (hp : A → B → C → D → List (Nat × Ob)) (Inv : A → B → C → D → Prop) (a0 : A) (b0 : B) (c0 : C) (d0 : D)
  (h : norm m ow cs σ fun σ0 => forceStF σ0 fun σ0 => WhileG4 m ow cs σ0 body Q μ (fun a b c d => ovr σ0 (fr a b c d) (hp a b c d)) Inv a0 b0 c0 d0) : LoopG m σ body Q :=
 loop_while (fun p : A × B × C × D => μ p.1 p.2.1 p.2.2.1 p.2.2.2) ow cs (fun p => fr p.1 p.2.1 p.2.2.1 p.2.2.2) (fun p => hp p.1 p.2.1 p.2.2.1 p.2.2.2) (fun p => Inv p.1 p.2.1 p.2.2.1 p.2.2.2) (a0, b0, c0, d0) (norm_mono (fun σ h => by rw [forceStF_eq] at h ⊢; exact ⟨h.init, h.inv, fun p => h.step p.1 p.2.1 p.2.2.1 p.2.2.2⟩) h)
end Abs
end Go.Proofs.YtkefgcleaalnnaaGreat
namespace Go.Proofs.YtkefgcleaalnnaaGreat
set_option linter.unusedVariables false
set_option linter.unusedSimpArgs false
open Abs
set_option maxHeartbeats 4000000
set_option maxRecDepth 100000
theorem strEqW {a b : ByteArray} : a.toList = b.toList ↔ a = b := ⟨toList_inj, fun h => by rw [h]⟩
abbrev evCo : Co → S := fun c => .agg [.int .i64 c.1, .int .i64 c.2]
abbrev gphS (E : List Ed) (pf : Nat) : S := .agg [.lst 5 (E.map encEd), .fn pf []]
theorem other_pc (e : Ed) (s : ByteArray) : PCp 128 [.agg (encEd e), .c (.str s)] [] (.c (.str (e.oth s))) [] := by
 refine fnP Tryz.func128 Tryz.results128 ?_
 conv => whnf
 repeat' (first | (refine CondG.mk (fun h => ?_) (fun h => ?_) <;> (try simp only [qA, qB, qC, qD, qE, qF, qG, qH] at h) <;> (first | (exfalso; first | omega | exact h trivial) | (conv => whnf))) | fail)
 ·rw [Ed.oth, if_pos (strEqW.1 h)]; exact .mk ⟨rfl, rfl⟩
 ·rw [Ed.oth, if_neg (fun q => h (strEqW.2 q))]; exact .mk ⟨rfl, rfl⟩
theorem coLess_pc (a b : Co) : PCp 162 [evCo a, evCo b] [] (.c (.bool (decide (coLt a b)))) [] := by
 refine fnP Tryz.func162 Tryz.results162 ?_
 conv => whnf
 repeat' (first | (refine Split.mk (fun h => ?_) (fun h => ?_) <;> (try simp only [qA, qB, qC, qD, qE, qF, qG, qH] at h) <;> (first | (exfalso; first | omega | exact h trivial) | (conv => whnf))) | fail)
 all_goals first | exact finb (decide_eq_true (by unfold coLt; omega)).symm | exact finb (decide_eq_false (by unfold coLt; omega)).symm | exact finb (by rw [decide_eq_decide]; unfold coLt; omega)
theorem coPlus_pc (c : Co) (e : Ed) (h1 : 0 ≤ c.1 ∧ c.1 ≤ 1000000000000) (h2 : 0 ≤ c.2 ∧ c.2 ≤ 1000000000000) (h3 : 1 ≤ e.long ∧ e.long ≤ 200000) : PCp 129 [evCo c, .agg (encEd e), .c (.bool true)] [] (evCo (coP c e)) [] := by
 have w1 : IntKind.i64.wrap (c.1 + e.long) = c.1 + e.long := wrap_in (by omega) (by omega)
 have w2 : IntKind.i64.wrap (c.2 + 1) = c.2 + 1 := wrap_in (by omega) (by omega)
 refine fnP Tryz.func129 Tryz.results129 ?_
 conv => whnf
 repeat' (first | (refine CondG.mk (fun h => ?_) (fun h => ?_) <;> (try simp only [qA, qB, qC, qD, qE, qF, qG, qH] at h) <;> (first | (exfalso; first | omega | exact h trivial | contradiction | (simp_all [eqRes]; done)) | (conv => whnf))) | fail)
 exact .mk ⟨by rw [w1, w2]; rfl, rfl⟩
def sitesE (E : List Ed) (to : ByteArray) : List ByteArray := to :: E.flatMap fun e => [e.a, e.b]
theorem sitesE_mem {E : List Ed} {to : ByteArray} : ∀ e ∈ E, e.a ∈ sitesE E to ∧ e.b ∈ sitesE E to := fun e he =>
 ⟨List.mem_cons_of_mem _ (List.mem_flatMap.2 ⟨e, he, by simp⟩), List.mem_cons_of_mem _ (List.mem_flatMap.2 ⟨e, he, by simp⟩)⟩
theorem sitesE_len (E : List Ed) (to : ByteArray) : (sitesE E to).length = 2 * E.length + 1 := by
 have : ∀ E : List Ed, (E.flatMap fun e => [e.a, e.b]).length = 2 * E.length := by
  intro E
  induction E with
  | nil => rfl
  | cons e r ih => simp only [List.flatMap_cons, List.length_append, List.length_cons, List.length_nil, ih]; omega
 simp only [sitesE, List.length_cons, this]
def LeastV (open_ : CM) (vis : List (Nat × ByteArray × Co)) (at_ : ByteArray) : Prop :=
 (vis = [] ∧ at_ = ⟨#[]⟩) ∨ (at_.size ≠ 0 ∧ ∃ c, open_.get at_ = some c ∧ ∀ e ∈ vis, ¬ coLt e.2.2 c)
theorem least_take {op : CM} {vis : List (Nat × ByteArray × Co)} {a : ByteArray} {e : Nat × ByteArray × Co} (hop : op.ok) (h : LeastV op vis a) (he : e ∈ op.es) (hs : e.2.1.size ≠ 0) (hlt : a = ⟨#[]⟩ ∨ ¬ coLt ((op.get a).getD (0, 0)) e.2.2) : LeastV op (e :: vis) e.2.1 := by
 refine .inr ⟨hs, e.2.2, mem_get hop (n := e.1) he, fun x hx => ?_⟩
 rcases List.mem_cons.1 hx with q | q
 ·subst q; exact coLt_irr _
 ·rcases h with ⟨rfl, _⟩ | ⟨h1, c, h2, h3⟩
  ·cases q
  ·have h4 := hlt.resolve_left (fun e => h1 (by rw [e]; rfl))
   rw [h2] at h4
   exact coLe_tr h4 (h3 x q)
theorem least_keep {op : CM} {vis : List (Nat × ByteArray × Co)} {a : ByteArray} {e : Nat × ByteArray × Co} (h : LeastV op vis a) (ha : a ≠ ⟨#[]⟩) (hlt : ¬ coLt e.2.2 ((op.get a).getD (0, 0))) : LeastV op (e :: vis) a := by
 rcases h with ⟨_, h⟩ | ⟨h1, c, h2, h3⟩
 ·exact absurd h ha
 ·refine .inr ⟨h1, c, h2, fun x hx => ?_⟩
  rcases List.mem_cons.1 hx with q | q
  ·subst q; rw [h2] at hlt; exact hlt
  ·exact h3 x q
theorem gCosts_pc (E : List Ed) (to : ByteArray) (pf : Nat) (hpf : ∀ s : ByteArray, PCp pf [.c (.str s)] [] (.c (.bool true)) []) (hE : EdsOk E) (hne : ∀ e ∈ E, e.a.size ≠ 0 ∧ e.b.size ≠ 0) (hto : to.size ≠ 0) (hl : E.length ≤ 1000) :
  PCq 122 [gphS E pf, .c (.str to), .c (.bool true)] [] fun r os => ∃ g : CM, Costs E to (sitesE E to) g ∧ r = .c (.mp 0) ∧ os = [smO ekS evCo g] := by
 have hSl := sitesE_len E to
 have hEm : (E.map encEd).length = E.length := List.length_map ..
 have hSn : ∀ s ∈ sitesE E to, s.size ≠ 0 := by
  intro s hs
  rcases List.mem_cons.1 hs with rfl | hs
  ·exact hto
  ·obtain ⟨e, he, h⟩ := List.mem_flatMap.1 hs
   simp only [List.mem_cons, List.not_mem_nil, or_false] at h
   rcases h with rfl | rfl
   ·exact (hne e he).1
   ·exact (hne e he).2
 have hb := Dij.begin E to (sitesE E to) (by simp [sitesE])
 refine fnPX Tryz.func122 Tryz.results122 ?_
 conv => whnf
 skip
 refine sm_upd (ek := ekS) (ev := evCo) keyStr SM.nil to (0, 0) ?_
 conv => whnf
 refine loop_while2 (fun (dn : CM) (op : CM) => (sitesE E to).length - dn.es.length) [] [1, 2, 3, 7, 8] (fun (dn : CM) (op : CM) => []) (fun (dn : CM) (op : CM) => [(1, smO ekS evCo dn), (2, smO ekS evCo op)]) (fun (dn : CM) (op : CM) => Dij E to (sitesE E to) dn op) (SM.nil) (SM.nil.put to (0, 0)) ?_
 conv => whnf
 refine ⟨?_, ?_, ?_⟩
 ·rfl
 ·exact hb
 ·intro dn op hD
  conv => whnf
  refine .mk (fun h => ?_) (fun h => ?_) <;> simp only [decide_eq_true_eq, decide_eq_false_iff_not] at h <;> (conv => whnf)
  ·have hpos : 0 < op.es.length := by unfold smE at h; rw [List.length_map] at h; omega
   refine loop_while2 (fun (a : ByteArray) (vis : List (Nat × ByteArray × Co)) => op.es.length - vis.length) [] [1, 2, 3, 7, 8, 9, 30] (fun (a : ByteArray) (vis : List (Nat × ByteArray × Co)) => [(9, .c (.str a))]) (fun (a : ByteArray) (vis : List (Nat × ByteArray × Co)) => [(3, .iter 2 op.clock (vis.map (·.1)))]) (fun (a : ByteArray) (vis : List (Nat × ByteArray × Co)) => Vis op vis ∧ LeastV op vis a) (⟨#[]⟩) ([]) ?_
   conv => whnf
   refine ⟨?_, ?_, ?_⟩
   ·rfl
   ·exact ⟨Vis.nil _, .inl ⟨rfl, rfl⟩⟩
   ·intro a vis ⟨hv, hls⟩
    have hvl := hv.len
    conv => whnf
    refine .mk rfl ?_
    conv => whnf
    refine sm_next hD.ook hv (fun hp => ?_) (fun e he hn hv' hlt => ?_)
    ·have hmin : ∃ now, op.get a = some now ∧ ∀ t d, op.get t = some d → ¬ coLt d now := by
      rcases hls with ⟨rfl, _⟩ | ⟨_, c, h2, h3⟩
      ·have := hp.length_eq; simp at this; omega
      ·refine ⟨c, h2, fun t d ht => ?_⟩
       obtain ⟨n, hn⟩ := get_mem ht
       exact h3 _ (hp.mem_iff.2 hn)
     obtain ⟨now, ha, hmn⟩ := hmin
     have hT := hD.take ha hmn
     have hT0 := trivial
     have hga : (op.get a).getD (0, 0) = now := by rw [ha]; rfl
     have hln : dn.get a = none := by
      cases q : dn.get a with
      | none => rfl
      | some c => have := hD.apart a (by rw [q]; rfl); rw [ha] at this; cases this
     have hlen := put_new_len (c := now) hln
     conv => whnf
     refine sm_look (ek := ekS) (ev := evCo) keyStr op a ((0, 0) : Co) rfl ?_
     rw [hga]
     conv => whnf
     repeat' (first | (refine .mk (fun h => ?_) (fun h => ?_) <;> (try simp only [qA, qB, qC, qD, qE, qF, qG, qH] at h) <;> (first | (exfalso; first | omega | exact h trivial | contradiction | (simp_all [eqRes]; done)) | (conv => whnf))) | (refine  CallX.mk _ _ (by exact hpf _) ?_; conv => whnf) | ((refine sm_upd (ek := ekS) (ev := evCo) keyStr dn a now ?_); conv => whnf) | ((refine sm_del (ek := ekS) (ev := evCo) keyStr op a ?_); conv => whnf) | fail)
     all_goals clear hv hls hp hvl hmn ha hga hD hb hT0
     all_goals
      refine loop_for (E.length) [] [1, 2, 3, 7, 8, 9, 12, 77, 78, 79] (fun k (oq : CM) => [(79, .c (.int .i64 (k : Int)))]) (fun k (oq : CM) => [(2, smO ekS evCo oq)]) (fun k (oq : CM) => DijE E to (sitesE E to) a now k (dn.put a now) oq) (op.del a) ?_
      conv => whnf
      refine ⟨?_, ?_, ?_, ?_⟩
      ·rfl
      ·exact hT
      ·intro k oq hk hDE
       have hbd := hDE.bound a now (.inl hDE.here)
       have hln2 := map_len hDE.dok (fun s hs => hDE.inS s (.inl hs))
       have hEk := (hE _ (List.getElem_mem hk)).2
       have hso := hDE.skip hE hk
       have hmo := hDE.more hE sitesE_mem hk
       have cP := coPlus_pc now E[k] (by omega) (by omega) hEk
       conv => whnf
       repeat' (first | (refine .mk (fun h => ?_) (fun h => ?_) <;> (try simp only [qA, qB, qC, qD, qE, qF, qG, qH] at h) <;> (first | (exfalso; first | omega | exact h trivial) | (conv => whnf))) | (refine  CallX.mk _ _ (by first | exact cP | exact coLess_pc _ _) ?_; conv => whnf) | (refine CallG.mk _ _ (by first | exact other_pc _ _ | exact cP) ?_; conv => whnf) | (refine idx_at _ (by with_reducible rfl) (by first | assumption | omega) ?_; conv => whnf) | ((refine sm_look (ek := ekS) (ev := evCo) keyStr (dn.put a now) (E[k].oth a) ((0, 0) : Co) rfl ?_); conv => whnf) | ((refine sm_look (ek := ekS) (ev := evCo) keyStr oq (E[k].oth a) ((0, 0) : Co) rfl ?_); conv => whnf) | ((refine sm_upd (ek := ekS) (ev := evCo) keyStr oq (E[k].oth a) (coP now E[k]) ?_); conv => whnf) | fail)
       ·exact count_next oq hk (by rw [wrap_succ hk (by omega)]; rfl) (hso (fun q => by
         rcases q with q | q
         ·exact absurd (strEqW.2 q) (by assumption)
         ·exact absurd (strEqW.2 q) (by assumption)))
       ·have hat : E[k].at a := .inr (strEqW.1 (by assumption))
        have h7 : ((dn.put a now).get (E[k].oth a)).isSome = false := by assumption
        have h8 : (oq.get (E[k].oth a)).isSome = false := by assumption
        exact count_next (oq.put (E[k].oth a) (coP now E[k])) hk (by rw [wrap_succ hk (by omega)]; rfl) (hmo hat (Option.isSome_eq_false_iff.1 h7 |> Option.isNone_iff_eq_none.1) (fun d hd => by rw [hd] at h8; cases h8))
       ·have hat : E[k].at a := .inr (strEqW.1 (by assumption))
        have h7 : ((dn.put a now).get (E[k].oth a)).isSome = false := by assumption
        have h8 : coLt (coP now E[k]) ((oq.get (E[k].oth a)).getD (0, 0)) := by assumption
        exact count_next (oq.put (E[k].oth a) (coP now E[k])) hk (by rw [wrap_succ hk (by omega)]; rfl) (hmo hat (Option.isSome_eq_false_iff.1 h7 |> Option.isNone_iff_eq_none.1) (fun d hd => by rw [hd] at h8; exact h8))
       ·have h7 : (oq.get (E[k].oth a)).isSome = true := by assumption
        have h8 : ¬ coLt (coP now E[k]) ((oq.get (E[k].oth a)).getD (0, 0)) := by assumption
        obtain ⟨d, hd⟩ := Option.isSome_iff_exists.1 h7
        rw [hd] at h8
        exact count_next oq hk (by rw [wrap_succ hk (by omega)]; rfl) (hso (fun _ => .inr ⟨d, hd, h8⟩))
       ·exact count_next oq hk (by rw [wrap_succ hk (by omega)]; rfl) (hso (fun _ => .inl (by assumption)))
       ·have hat : E[k].at a := .inl (strEqW.1 (by assumption))
        have h7 : ((dn.put a now).get (E[k].oth a)).isSome = false := by assumption
        have h8 : (oq.get (E[k].oth a)).isSome = false := by assumption
        exact count_next (oq.put (E[k].oth a) (coP now E[k])) hk (by rw [wrap_succ hk (by omega)]; rfl) (hmo hat (Option.isSome_eq_false_iff.1 h7 |> Option.isNone_iff_eq_none.1) (fun d hd => by rw [hd] at h8; cases h8))
       ·have hat : E[k].at a := .inl (strEqW.1 (by assumption))
        have h7 : ((dn.put a now).get (E[k].oth a)).isSome = false := by assumption
        have h8 : coLt (coP now E[k]) ((oq.get (E[k].oth a)).getD (0, 0)) := by assumption
        exact count_next (oq.put (E[k].oth a) (coP now E[k])) hk (by rw [wrap_succ hk (by omega)]; rfl) (hmo hat (Option.isSome_eq_false_iff.1 h7 |> Option.isNone_iff_eq_none.1) (fun d hd => by rw [hd] at h8; exact h8))
       ·have h7 : (oq.get (E[k].oth a)).isSome = true := by assumption
        have h8 : ¬ coLt (coP now E[k]) ((oq.get (E[k].oth a)).getD (0, 0)) := by assumption
        obtain ⟨d, hd⟩ := Option.isSome_iff_exists.1 h7
        rw [hd] at h8
        exact count_next oq hk (by rw [wrap_succ hk (by omega)]; rfl) (hso (fun _ => .inr ⟨d, hd, h8⟩))
       ·exact count_next oq hk (by rw [wrap_succ hk (by omega)]; rfl) (hso (fun _ => .inl (by assumption)))
      ·intro oq hDE
       have hov := hDE.over
       have hlen3 := hov.len
       conv => whnf
       repeat' (first | (refine CondG.mk (fun h => ?_) (fun h => ?_) <;> (try simp only [qA, qB, qC, qD, qE, qF, qG, qH] at h) <;> (first | (exfalso; first | omega | exact h trivial) | (conv => whnf))) | fail)
       exact meas_next (dn.put a now, oq) (by show (sitesE E to).length - (dn.put a now).es.length < (sitesE E to).length - dn.es.length; omega) rfl hov
    ·conv => whnf
     refine .mk rfl ?_
     conv => whnf
     refine sm_at hD.ook he ?_
     conv => whnf
     have hes : e.2.1.size ≠ 0 := hSn _ (hD.inS _ (.inr (by rw [mem_get hD.ook (n := e.1) (c := e.2.2) he]; rfl)))
     have t1 := least_take hD.ook hls he hes
     have t2 := least_keep (e := e) hls
     repeat' (first | (refine .mk (fun h => ?_) (fun h => ?_) <;> (try simp only [qA, qB, qC, qD, qE, qF, qG, qH] at h) <;> (first | (exfalso; first | omega | exact h trivial) | (conv => whnf))) | (refine  CallX.mk _ _ (by exact coLess_pc _ _) ?_; conv => whnf) | ((with_reducible refine sm_look (ek := ekS) (ev := evCo) keyStr op a ((0, 0) : Co) ?_ ?_); exact rfl; conv => whnf) | fail)
     ·exact meas_next (e.2.1, e :: vis) (by simp only [List.length_cons]; omega) rfl ⟨hv', t1 (.inl (strEqW.1 (by assumption)))⟩
     ·have h9 : coLt e.2.2 ((op.get a).getD (0, 0)) := by assumption
      exact meas_next (e.2.1, e :: vis) (by simp only [List.length_cons]; omega) rfl ⟨hv', t1 (.inr (fun q => coLt_irr _ (coLt_tr q h9)))⟩
     ·have h9 : (e.2.2.1 == ((op.get a).getD (0, 0)).1 && e.2.2.2 == ((op.get a).getD (0, 0)).2) = true := by assumption
      rw [Bool.and_eq_true, beq_iff_eq, beq_iff_eq] at h9
      exact meas_next (e.2.1, e :: vis) (by simp only [List.length_cons]; omega) rfl ⟨hv', t1 (.inr (by unfold coLt; omega))⟩
     all_goals
      have h8 : a.toList ≠ (⟨#[]⟩ : ByteArray).toList := by assumption
      have h9 : ¬ coLt e.2.2 ((op.get a).getD (0, 0)) := by assumption
      exact meas_next (a, e :: vis) (by simp only [List.length_cons]; omega) rfl ⟨hv', t2 (fun q => h8 (strEqW.2 q)) h9⟩
  ·have ho : op.es = [] := by
    unfold smE at h; rw [List.length_map] at h
    exact List.length_eq_zero_iff.1 (by omega)
   conv => whnf
   exact .mk _ _ ⟨dn, hD.over ho, rfl, rfl⟩ (.mk ⟨rfl, rfl⟩)
def insDown {α : Type} (c : α → α → Int) (a : Nat) : Nat → List α → List α
 | 0, l => l
 | j + 1, l => if a < j + 1 then (match l[j + 1]?, l[j]? with | some x, some y => if c x y < 0 then insDown c a j ((l.set (j + 1) y).set j x) else l | _, _ => l) else l
def insTo {α : Type} (c : α → α → Int) (a : Nat) : Nat → List α → List α
 | 0, l => l
 | m + 1, l => insDown c a (a + 1 + m) (insTo c a m l)
def insSort {α : Type} (c : α → α → Int) (l : List α) : List α := insTo c 0 (l.length - 1) l
theorem insDown_len {α : Type} (c : α → α → Int) (a : Nat) : ∀ (j : Nat) (l : List α), (insDown c a j l).length = l.length
 | 0, l => rfl
 | j + 1, l => by
  unfold insDown
  split
  ·split
   ·split
    ·rw [insDown_len]; simp
    ·rfl
   ·rfl
  ·rfl
theorem insTo_len {α : Type} (c : α → α → Int) (a : Nat) : ∀ (m : Nat) (l : List α), (insTo c a m l).length = l.length
 | 0, l => rfl
 | m + 1, l => by rw [insTo, insDown_len, insTo_len]
theorem insSort_len {α : Type} (c : α → α → Int) (l : List α) : (insSort c l).length = l.length := insTo_len ..
theorem swap_perm {α : Type} {l : List α} {j : Nat} {x y : α} (hx : l[j + 1]? = some x) (hy : l[j]? = some y) : ((l.set (j + 1) y).set j x).Perm l := by
 induction l generalizing j with
 | nil => simp at hx
 | cons a r ih =>
  cases j with
  | zero =>
   cases r with
   | nil => simp at hx
   | cons b r => simp at hx hy; subst hx hy; exact List.Perm.swap _ _ _
  | succ j => exact List.Perm.cons a (ih (by simpa using hx) (by simpa using hy))
theorem insDown_perm {α : Type} (c : α → α → Int) (a : Nat) : ∀ (j : Nat) (l : List α), (insDown c a j l).Perm l
 | 0, l => List.Perm.refl _
 | j + 1, l => by
  unfold insDown
  split
  ·split
   ·rename_i x y hx hy
    split
    ·exact (insDown_perm c a j _).trans (swap_perm hx hy)
    ·exact List.Perm.refl _
   ·exact List.Perm.refl _
  ·exact List.Perm.refl _
theorem insTo_perm {α : Type} (c : α → α → Int) (a : Nat) : ∀ (m : Nat) (l : List α), (insTo c a m l).Perm l
 | 0, l => List.Perm.refl _
 | m + 1, l => (insDown_perm c a _ _).trans (insTo_perm c a m l)
theorem insSort_perm {α : Type} (c : α → α → Int) (l : List α) : (insSort c l).Perm l := insTo_perm ..
theorem insDown_step {α : Type} {c : α → α → Int} {a j : Nat} {l : List α} (h : a < j + 1) (h1 : j + 1 < l.length) (hc : c l[j + 1] (l[j]'(by omega)) < 0) : insDown c a (j + 1) l = insDown c a j ((l.set (j + 1) (l[j]'(by omega))).set j l[j + 1]) := by
 rw [insDown, if_pos h, List.getElem?_eq_getElem h1, List.getElem?_eq_getElem (show j < l.length by omega)]
 simp only [if_pos hc]
theorem insDown_stop {α : Type} {c : α → α → Int} {a j : Nat} {l : List α} (h1 : j + 1 < l.length) (hc : ¬ c l[j + 1] (l[j]'(by omega)) < 0) : insDown c a (j + 1) l = l := by
 rw [insDown, List.getElem?_eq_getElem h1, List.getElem?_eq_getElem (show j < l.length by omega)]
 simp only [if_neg hc]
 split <;> rfl
theorem row_at {α : Type} {enc : α → List V} {l : List α} {i : Nat} {k : List V → Prop} (j : Nat) (hi : i = j) (hj : j < l.length) (hk : k (enc l[j])) : RowG (l.map enc) i k := by subst hi; exact row_map hj hk
theorem toN {n : Nat} : ((n : Int)).toNat = n := Int.toNat_natCast n
def cptA {α : Type} [DecidableEq α] : α → List α → List α
 | _, [] => []
 | a, b :: r => if b = a then cptA a r else b :: cptA b r
def cpt {α : Type} [DecidableEq α] : List α → List α
 | [] => []
 | a :: r => a :: cptA a r
theorem cptA_len {α : Type} [DecidableEq α] : ∀ (a : α) (l : List α), (cptA a l).length ≤ l.length
 | _, [] => Nat.le_refl _
 | a, b :: r => by
  unfold cptA
  split
  ·have := cptA_len a r; simp; omega
  ·have := cptA_len b r; simp; omega
theorem cpt_len {α : Type} [DecidableEq α] (l : List α) : (cpt l).length ≤ l.length := by
 cases l with
 | nil => exact Nat.le_refl _
 | cons a r => have := cptA_len a r; simp [cpt]; omega
theorem cptA_id {α : Type} [DecidableEq α] : ∀ (a : α) (r : List α), cptA a r = r ↔ ∀ i (h : i + 1 < (a :: r).length), (a :: r)[i + 1] ≠ (a :: r)[i]
 | a, [] => by simp [cptA]
 | a, b :: r => by
  unfold cptA
  split
  ·rename_i e
   constructor
   ·intro h
    have := cptA_len a r
    rw [h] at this; simp at this; omega
   ·intro h; exact (h 0 (by simp) (by simpa using e)).elim
  ·rename_i e
   rw [List.cons.injEq]
   constructor
   ·rintro ⟨_, h⟩ i hi
    cases i with
    | zero => simpa using e
    | succ i => exact (cptA_id b r).1 h i (by simpa using hi)
   ·intro h
    refine ⟨rfl, (cptA_id b r).2 fun i hi => ?_⟩
    have := h (i + 1) (by simpa using hi)
    simpa using this
theorem cpt_id {α : Type} [DecidableEq α] (l : List α) : cpt l = l ↔ ∀ i (h : i + 1 < l.length), l[i + 1] ≠ l[i] := by
 cases l with
 | nil => simp [cpt]
 | cons a r => rw [cpt, List.cons.injEq]; simp only [true_and]; exact cptA_id a r
theorem cpt_from {α : Type} [DecidableEq α] : ∀ (l : List α) (k : Nat) (hk : k < l.length), (∀ i (h : i + 1 < l.length), i + 1 ≤ k → l[i + 1] ≠ l[i]) → cpt l = l.take (k + 1) ++ cptA l[k] (l.drop (k + 1))
 | [], k, hk, _ => by simp at hk
 | a :: r, 0, _, _ => by simp [cpt]
 | [a], k + 1, hk, _ => by simp at hk
 | a :: b :: r, k + 1, hk, h => by
  have h0 := h 0 (by simp) (by omega)
  have ih := cpt_from (b :: r) k (by simpa using hk) (fun i hi h1 => by have := h (i + 1) (by simpa using hi) (by omega); simpa using this)
  rw [cpt] at ih ⊢
  rw [cptA, if_neg (by simpa using h0), ih]
  simp
theorem notT {b : Bool} (h : (!b) = true) : b = false := by cases b <;> simp_all
theorem notF {b : Bool} (h : (!b) = false) : b = true := by cases b <;> simp_all
theorem getElem_of_drop {α : Type} {q l : List α} {p i : Nat} (hd : q.drop p = l.drop p) (hpi : p ≤ i) (h1 : i < q.length) (h2 : i < l.length) : q[i] = l[i] := by
 have h3 := congrArg (fun r => r[i - p]?) hd
 simp only [List.getElem?_drop, show p + (i - p) = i by omega, List.getElem?_eq_getElem h1, List.getElem?_eq_getElem h2] at h3
 exact Option.some.inj h3
theorem drop_more {α : Type} {q l : List α} {p : Nat} (hd : q.drop p = l.drop p) : q.drop (p + 1) = l.drop (p + 1) := by
 rw [← List.drop_drop, ← List.drop_drop, hd]
theorem getDD {α : Type} {l : List α} {i : Nat} {d : α} (h : i < l.length) : l.getD i d = l[i] := by simp [h]
theorem cpt_same {α : Type} [DecidableEq α] {q l C : List α} {p j : Nat} {d : α} (hp : p + 1 < l.length) (hd : q.drop p = l.drop p) (hc : q.take j ++ cptA (l.getD p d) (l.drop (p + 1)) = C) (he : l[p + 1] = l[p]'(by omega)) :
  q.drop (p + 1) = l.drop (p + 1) ∧ q.take j ++ cptA (l.getD (p + 1) d) (l.drop (p + 1 + 1)) = C := by
 refine ⟨drop_more hd, ?_⟩
 rw [← hc, List.drop_eq_getElem_cons hp, cptA, getDD hp, getDD (show p < l.length by omega), if_pos he, he]
theorem cpt_new {α : Type} [DecidableEq α] {q l C : List α} {p j : Nat} {d : α} (hq : q.length = l.length) (hp : p + 1 < l.length) (hj : j ≤ p) (hd : q.drop p = l.drop p) (hc : q.take j ++ cptA (l.getD p d) (l.drop (p + 1)) = C) (he : ¬ l[p + 1] = l[p]'(by omega)) :
  (q.set j l[p + 1]).drop (p + 1) = l.drop (p + 1) ∧ (q.set j l[p + 1]).take (j + 1) ++ cptA (l.getD (p + 1) d) (l.drop (p + 1 + 1)) = C := by
 refine ⟨by rw [List.drop_set_of_lt (by omega)]; exact drop_more hd, ?_⟩
 rw [← hc, List.drop_eq_getElem_cons hp, cptA, getDD hp, getDD (show p < l.length by omega), if_neg he]
 have h1 : (q.set j l[p + 1]).take (j + 1) = q.take j ++ [l[p + 1]] := by
  rw [List.take_succ_eq_append_getElem (by simp; omega), List.take_set_of_le (Nat.le_refl _), List.getElem_set_self]
 rw [h1]
 simp
def InsInv {α : Type} (c : α → α → Int) (m j : Nat) (l : List α) : Prop :=
 (∀ i k x y, i < k → k ≤ m → i ≠ j → k ≠ j → l[i]? = some x → l[k]? = some y → ¬ c y x < 0) ∧ ∀ k x y, j < k → k ≤ m → l[j]? = some x → l[k]? = some y → ¬ c y x < 0
def SrtTo {α : Type} (c : α → α → Int) (n : Nat) (l : List α) : Prop := ∀ i k x y, i < k → k < n → l[i]? = some x → l[k]? = some y → ¬ c y x < 0
theorem insDown_srt {α : Type} {c : α → α → Int} (hc : SWOc c) (m : Nat) : ∀ (j : Nat) (l : List α), j ≤ m → m < l.length → InsInv c m j l → SrtTo c (m + 1) (insDown c 0 j l)
 | 0, l, _, hm, ⟨h1, h2⟩ => by
  intro i k x y hik hk hx hy
  rw [insDown] at hx hy
  by_cases e : i = 0
  ·subst e; exact h2 k x y hik (by omega) hx hy
  ·exact h1 i k x y hik (by omega) e (by omega) hx hy
 | j + 1, l, hj, hm, ⟨h1, h2⟩ => by
  by_cases hlt : c (l[j + 1]'(by omega)) (l[j]'(by omega)) < 0
  ·rw [insDown_step (by omega) (by omega) hlt]
   refine insDown_srt hc m j _ (by omega) (by simpa using hm) ⟨?_, ?_⟩
   ·intro i k x y hik hk hij hkj hx hy
    rw [List.getElem?_set_ne (Ne.symm hij)] at hx
    rw [List.getElem?_set_ne (Ne.symm hkj)] at hy
    by_cases e1 : k = j + 1
    ·subst e1
     rw [List.getElem?_set_ne (by omega)] at hx
     rw [List.getElem?_set_self (by omega)] at hy
     cases hy
     exact h1 i j x _ (by omega) (by omega) (by omega) (by omega) hx (List.getElem?_eq_getElem (by omega))
    ·by_cases e2 : i = j + 1
     ·subst e2
      rw [List.getElem?_set_self (by omega)] at hx
      rw [List.getElem?_set_ne (by omega)] at hy
      cases hx
      exact h1 j k _ y (by omega) hk (by omega) e1 (List.getElem?_eq_getElem (by omega)) hy
     ·rw [List.getElem?_set_ne (by omega)] at hx hy
      exact h1 i k x y hik hk e2 e1 hx hy
   ·intro k x y hjk hk hx hy
    rw [List.getElem?_set_self (by simp; omega)] at hx
    cases hx
    rw [List.getElem?_set_ne (by omega)] at hy
    by_cases e1 : k = j + 1
    ·subst e1
     rw [List.getElem?_set_self (by omega)] at hy
     cases hy
     intro h6
     exact hc.irrefl _ (hc.trans _ _ _ hlt h6)
    ·rw [List.getElem?_set_ne (by omega)] at hy
     exact h2 k _ y (by omega) hk (List.getElem?_eq_getElem (by omega)) hy
  ·rw [insDown_stop (by omega) hlt]
   intro i k x y hik hk hx hy
   by_cases e1 : k = j + 1
   ·subst e1
    rw [List.getElem?_eq_getElem (by omega)] at hy
    cases hy
    by_cases e2 : i = j
    ·subst e2
     rw [List.getElem?_eq_getElem (by omega)] at hx
     cases hx
     exact hlt
    ·exact hc.ntrans _ _ _ hlt (h1 i j x _ (by omega) (by omega) (by omega) (by omega) hx (List.getElem?_eq_getElem (by omega)))
   ·by_cases e2 : i = j + 1
    ·subst e2; exact h2 k x y hik (by omega) hx hy
    ·exact h1 i k x y hik (by omega) e2 e1 hx hy
theorem insTo_srt {α : Type} {c : α → α → Int} (hc : SWOc c) (l : List α) : ∀ m, m < l.length → SrtTo c (m + 1) (insTo c 0 m l)
 | 0, _ => fun i k x y h1 h2 => by omega
 | m + 1, h => by
  have ih := insTo_srt hc l m (by omega)
  rw [insTo, show 0 + 1 + m = m + 1 by omega]
  refine insDown_srt hc (m + 1) (m + 1) _ (Nat.le_refl _) (by rw [insTo_len]; exact h) ⟨?_, ?_⟩
  ·intro i k x y hik hk _ hk2 hx hy
   exact ih i k x y hik (by omega) hx hy
  ·intro k x y h1 h2; omega
theorem insSort_srt {α : Type} {c : α → α → Int} (hc : SWOc c) (l : List α) : (insSort c l).Pairwise fun x y => ¬ c y x < 0 := by
 unfold insSort
 cases h : l with
 | nil => exact List.Pairwise.nil
 | cons a r =>
  rw [← h]
  have h0 : 0 < l.length := by rw [h]; simp
  have := insTo_srt hc l (l.length - 1) (by omega)
  rw [List.pairwise_iff_getElem]
  intro i k hi hk hik
  have hlen := insTo_len c 0 (l.length - 1) l
  exact this i k _ _ hik (by omega) (List.getElem?_eq_getElem hi) (List.getElem?_eq_getElem hk)
theorem swo_key {α : Type} (key : α → ByteArray) : SWOc fun a b : α => cmpS (key a) (key b) where
 irrefl x := by rw [cmp_lt, ltB_irr]; simp
 trans x y z h1 h2 := cmp_lt.2 (ltB_trans (cmp_lt.1 h1) (cmp_lt.1 h2))
 ntrans x y z h1 h2 := by
  rw [cmp_lt] at h1 h2 ⊢
  intro h3
  rcases ltB_tri (key x) (key y) with h | h | h
  ·exact h1 h
  ·rw [h] at h3; exact h2 h3
  ·exact h2 (ltB_trans h h3)
theorem rise_of {α : Type} {key : α → ByteArray} {l : List α} (h : l.Pairwise fun x y => ¬ cmpS (key y) (key x) < 0) (hn : (l.map key).Nodup) : Rise key l := by
 unfold Rise
 have hn' : l.Pairwise fun x y => key x ≠ key y := List.pairwise_map.1 hn
 refine (h.and hn').imp ?_
 rintro x y ⟨h1, h2⟩
 rw [cmp_lt] at h1
 rcases ltB_tri (key x) (key y) with h | h | h
 ·exact h
 ·exact (h2 h).elim
 ·exact (h1 h).elim
theorem rise_one {α : Type} {key : α → ByteArray} : ∀ {a b : List α}, a.Perm b → Rise key a → Rise key b → a = b
 | [], b, hp, _, _ => by rw [List.nil_perm.1 hp]
 | x :: r, [], hp, _, _ => by have := hp.length_eq; simp at this
 | x :: r, y :: t, hp, h1, h2 => by
  obtain ⟨a1, a2⟩ := List.pairwise_cons.1 h1
  obtain ⟨b1, b2⟩ := List.pairwise_cons.1 h2
  have hxy : x = y := by
   rcases List.mem_cons.1 (hp.mem_iff.1 (show x ∈ x :: r by simp)) with h | h
   ·exact h
   ·rcases List.mem_cons.1 (hp.mem_iff.2 (show y ∈ y :: t by simp)) with h' | h'
    ·exact h'.symm
    ·have := ltB_asym (a1 y h'); rw [b1 x h] at this; cases this
  subst hxy
  rw [rise_one (List.Perm.cons_inv hp) a2 b2]
theorem PCx.monoW {P : Program} {f : Nat} {args : List S} {objs : List Ob} {Q Q' : S → List Ob → Prop} (h : PCx P f args objs Q) (hi : ∀ r os, Q r os → Q' r os) : PCx P f args objs Q' :=
 ⟨h.fn, fun F φ w cs a b c => (h.calls F φ w cs a b c).mono (by rintro e w' ⟨c, F', φ', r, os, hQ, rest⟩; exact ⟨c, F', φ', r, os, hi _ _ hQ, rest⟩)⟩
theorem cloneEd_pc (l : List Ed) (hl : l.length ≤ 1000000) : PCp 123 [.c (.lst 5 (l.map encEd))] [] (.c (.row 0)) [.row 126 5 (l.map encEd)] := by
 have hlm : (l.map encEd).length = l.length := List.length_map ..
 refine fnP Tryz.func123 Tryz.results123 ?_
 conv => whnf
 refine .mk (fun h => ?_) ?_
 ·conv => whnf
  exact .own 126 5 rfl rfl (by rw [h]; rfl)
 ·conv => whnf
  repeat' (first | (refine AppG.mk (by first | omega | (unfold roomOK; simp [cutRows]; done) | (unfold roomOK; simp [cutRows]; omega)) ?_; conv => whnf) | fail)
  exact .mk ⟨rfl, rfl⟩
theorem best1_pc (a b : Ed) : PCp 125 [.agg (encEd a), .agg (encEd b)] [] (.c (.int .i64 (cmpS a.key b.key))) [] := by
 refine fnP Tryz.func125 Tryz.results125 ?_
 conv => whnf
 repeat' (first | (refine  CallX.mk _ _ (by exact sCompare_pc _ _) ?_; conv => whnf) | fail)
 exact fini rfl
theorem sortEd_pc (l : List Ed) (hl : l.length ≤ 1000000) (hr : Rise Ed.key l) :
  PCp 124 [.c (.row 0), .c (.fn 125 [])] [.row 126 5 (l.map encEd)] (.tup []) [.row 126 5 (l.map encEd)] := by
 have h := sort_pcx layEdge (encA := encEd) (c := fun a b : Ed => cmpS a.key b.key) (by decide) (fun w => (tab_fits 126 _ rfl).isAgg w) (fun w => (tab_fits 126 _ rfl).sizeOf w) (fun x => rfl) (swo_key Ed.key) best1_pc 126 l (by omega)
 refine PCx.monoW h ?_
 rintro r os ⟨l', hs, h1, h2⟩
 have : l' = l := rise_one hs.1 (rise_of hs.2 ((hs.1.map _).nodup_iff.2 (rise_nodup hr))) hr
 subst this
 exact ⟨h1, h2⟩
theorem ixEd_pc (E : List Ed) (pf : Nat) (gm : CM) (at_ to : ByteArray) (now : Co) (g : Nat) (p : Ed → Bool) (l : List Ed) (hl : l.length ≤ 1000000) (hg : ∀ x ∈ l, PCp g [.agg (encEd x), .c (.ptr 0 0), .c (.ptr 1 0), .c (.ptr 3 0), .c (.ptr 4 0), .c (.ptr 5 0), .c (.ptr 6 0)] [.box [.str at_], .box [.mp 2], smO ekS evCo gm, .box [.str to], .box [.lst 5 (E.map encEd), .fn pf []], .box [.bool true], .box [.int .i64 now.1, .int .i64 now.2]] (.c (.bool (p x))) [.box [.str at_], .box [.mp 2], smO ekS evCo gm, .box [.str to], .box [.lst 5 (E.map encEd), .fn pf []], .box [.bool true], .box [.int .i64 now.1, .int .i64 now.2]]) : PCp 126 [.c (.row 0), .c (.fn g [.ptr 1 0, .ptr 2 0, .ptr 4 0, .ptr 5 0, .ptr 6 0, .ptr 7 0])] [.row 126 5 (l.map encEd), .box [.str at_], .box [.mp 3], smO ekS evCo gm, .box [.str to], .box [.lst 5 (E.map encEd), .fn pf []], .box [.bool true], .box [.int .i64 now.1, .int .i64 now.2]] (.c (.int .i64 (idxP p l))) [.row 126 5 (l.map encEd), .box [.str at_], .box [.mp 3], smO ekS evCo gm, .box [.str to], .box [.lst 5 (E.map encEd), .fn pf []], .box [.bool true], .box [.int .i64 now.1, .int .i64 now.2]] := by
 have hlm : (l.map encEd).length = l.length := List.length_map ..
 refine fnP Tryz.func126 Tryz.results126 ?_
 conv => whnf
 refine loop_for (l.length) [] [0, 1, 7, 8] (fun k (_ : Unit) => [(8, .c (.int .i64 (k : Int)))]) (fun k (_ : Unit) => []) (fun k (_ : Unit) => ∀ i (hi : i < l.length), i < k → p l[i] = false) (()) ?_
 conv => whnf
 refine ⟨(by first | rfl | (simp; done) | (simp; rfl)), ?_, ?_, ?_⟩
 ·intro i hi h; omega
 ·intro k _ hk hi
  conv => whnf
  repeat' (first | (refine CondG.mk (fun h => ?_) (fun h => ?_) <;> (try simp only [qA, qB, qC, qD, qE, qF, qG, qH] at h) <;> (first | (exfalso; first | omega | exact h trivial) | (conv => whnf))) | (refine  CallX.mk _ _ (by exact hg l[k] (List.getElem_mem hk)) ?_; conv => whnf) | (refine .mk (by first | omega | (unfold roomOK; simp [cutRows]; done) | (unfold roomOK; simp [cutRows]; omega) | (simp [cutRows]; done) | (simp [cutRows]; omega)) ?_; conv => whnf) | ((with_reducible refine row_map (by first | assumption | omega) ?_); conv => whnf) | fail)
  ·exact .mk ⟨by rw [idxP_hit hk (fun i hi' => hi i (by omega) hi') h]; rfl, rfl⟩
  ·refine count_next () hk (by rw [wrap_succ hk (by omega)]; rfl) ?_
   exact all_succ' hi h
 ·intro _ hi
  conv => whnf
  repeat' (first | (refine CondG.mk (fun h => ?_) (fun h => ?_) <;> (try simp only [decide_eq_true_eq, decide_eq_false_iff_not, Bool.not_eq_true', Bool.not_eq_false', beq_iff_eq, beq_eq_false_iff_ne] at h) <;> (first | (exfalso; first | omega | exact h trivial) | (conv => whnf))) | fail)
  exact .mk ⟨by rw [idxP_miss (fun i h => hi i h h)]; rfl, rfl⟩
theorem best2_pc (E : List Ed) (pf : Nat) (g : CM) (at_ to : ByteArray) (now : Co) (hpf : ∀ s : ByteArray, PCp pf [.c (.str s)] [] (.c (.bool true)) []) (e : Ed) (h3 : 1 ≤ e.long ∧ e.long ≤ 200000) (hg : ∀ s c, g.get s = some c → 0 ≤ c.1 ∧ c.1 ≤ 1000000000 ∧ 0 ≤ c.2 ∧ c.2 ≤ 1000000000) :
  PCp 127 [.agg (encEd e), .c (.ptr 0 0), .c (.ptr 1 0), .c (.ptr 3 0), .c (.ptr 4 0), .c (.ptr 5 0), .c (.ptr 6 0)] [.box [.str at_], .box [.mp 2], smO ekS evCo g, .box [.str to], .box [.lst 5 (E.map encEd), .fn pf []], .box [.bool true], .box [.int .i64 now.1, .int .i64 now.2]] (.c (.bool (nbE g at_ now e)))
   [.box [.str at_], .box [.mp 2], smO ekS evCo g, .box [.str to], .box [.lst 5 (E.map encEd), .fn pf []], .box [.bool true], .box [.int .i64 now.1, .int .i64 now.2]] := by
 have hgd : 0 ≤ ((g.get (e.oth at_)).getD (0, 0)).1 ∧ ((g.get (e.oth at_)).getD (0, 0)).1 ≤ 1000000000000 ∧ 0 ≤ ((g.get (e.oth at_)).getD (0, 0)).2 ∧ ((g.get (e.oth at_)).getD (0, 0)).2 ≤ 1000000000000 := by
  cases q : g.get (e.oth at_) with
  | none => simp
  | some c => have := hg _ c q; simp only [Option.getD_some]; omega
 have cP := coPlus_pc ((g.get (e.oth at_)).getD (0, 0)) e (by omega) (by omega) h3
 have n1 : ¬ e.at at_ → nbE g at_ now e = false := fun h => by
  cases q : nbE g at_ now e with
  | false => rfl
  | true => exact absurd (nbE_iff.1 q).1 h
 have n2 : (g.get (e.oth at_)).isSome = false → nbE g at_ now e = false := fun h => by
  cases q : nbE g at_ now e with
  | false => rfl
  | true => obtain ⟨_, c, h2, _⟩ := nbE_iff.1 q; rw [h2] at h; cases h
 have n3 : e.at at_ → (g.get (e.oth at_)).isSome = true → nbE g at_ now e = ((coP ((g.get (e.oth at_)).getD (0, 0)) e).1 == now.1 && (coP ((g.get (e.oth at_)).getD (0, 0)) e).2 == now.2) := fun h1 h2 => by
  obtain ⟨c, hc⟩ := Option.isSome_iff_exists.1 h2
  rw [Bool.eq_iff_iff, nbE_iff, hc, Option.getD_some, Bool.and_eq_true, beq_iff_eq, beq_iff_eq]
  constructor
  ·rintro ⟨_, c', h3, h4⟩
   cases h3
   rw [h4]; exact ⟨rfl, rfl⟩
  ·rintro ⟨h3, h4⟩
   exact ⟨h1, c, rfl, Prod.ext h3 h4⟩
 refine fnP Tryz.func127 Tryz.results127 ?_
 conv => whnf
 repeat' (first | (refine .mk (fun h => ?_) (fun h => ?_) <;> (try simp only [qA, qB, qC, qD, qE, qF, qG, qH] at h) <;> (first | (exfalso; first | omega | exact h trivial | contradiction | (simp_all [eqRes]; done)) | (conv => whnf))) | (refine  CallX.mk _ _ (by first | exact other_pc _ _ | exact cP) ?_; conv => whnf) | (refine CallG.mk _ _ (by first | exact hpf _ | exact cP) ?_; conv => whnf) | ((refine sm_look (ek := ekS) (ev := evCo) keyStr g (e.oth at_) ((0, 0) : Co) rfl ?_); conv => whnf) | fail)
 ·have hh := n1 (fun q => by
   rcases q with q | q
   ·exact absurd (strEqW.2 q) (by assumption)
   ·exact absurd (strEqW.2 q) (by assumption))
  exact .mk ⟨by rw [hh]; rfl, rfl⟩
 ·have hh := n3 (.inr (strEqW.1 (by assumption))) (by assumption)
  exact .mk ⟨by rw [hh]; rfl, rfl⟩
 ·have hh := n3 (.inr (strEqW.1 (by assumption))) (by assumption)
  exact .mk ⟨by rw [hh]; rfl, rfl⟩
 ·have hh := n2 (by assumption)
  exact .mk ⟨by rw [hh]; rfl, rfl⟩
 ·have hh := n3 (.inl (strEqW.1 (by assumption))) (by assumption)
  exact .mk ⟨by rw [hh]; rfl, rfl⟩
 ·have hh := n3 (.inl (strEqW.1 (by assumption))) (by assumption)
  exact .mk ⟨by rw [hh]; rfl, rfl⟩
 ·have hh := n2 (by assumption)
  exact .mk ⟨by rw [hh]; rfl, rfl⟩
theorem gBest_pc (E : List Ed) (fr to : ByteArray) (pf : Nat) (hpf : ∀ s : ByteArray, PCp pf [.c (.str s)] [] (.c (.bool true)) []) (hE : EdsOk E) (hne : ∀ e ∈ E, e.a.size ≠ 0 ∧ e.b.size ≠ 0) (hto : to.size ≠ 0) (hl : E.length ≤ 1000) (hr : Rise Ed.key E) :
  PCq 85 [gphS E pf, .c (.str fr), .c (.str to), .c (.bool true)] [] fun r os => ∃ g : CM, Costs E to (sitesE E to) g ∧ os = [] ∧ ((g.get fr = none ∧ r = .tup [.c (.lst 5 []), .c (.bool false)]) ∨ ∃ c P, FW E g to fr to c P ∧ r = .tup [.c (.lst 5 (P.map encEd)), .c (.bool true)]) := by
 have hSl := sitesE_len E to
 have hEm : (E.map encEd).length = E.length := List.length_map ..
 refine fnPX Tryz.func85 Tryz.results85 ?_
 conv => whnf
 skip
 refine .ex _ (gCosts_pc E to pf hpf hE hne hto hl) ?_
 rintro _ _ ⟨g, hC, rfl, rfl⟩
 conv => whnf
 refine sm_look (ek := ekS) (ev := evCo) keyStr g fr ((0, 0) : Co) rfl ?_
 conv => whnf
 refine .mk (fun h => ?_) (fun h => ?_) <;> (conv => whnf)
 ·have hn : g.get fr = none := by
   cases q : g.get fr with
   | none => rfl
   | some c => rw [q] at h; simp at h
  refine .mk _ _ ⟨g, hC, rfl, .inl ⟨hn, rfl⟩⟩ (.weak [] (.tup _ _ rfl ?_) rfl (Nat.le_refl _))
  intro i x y hx hy
  match i with
  | 0 => cases hx; cases hy; exact .nil 5
  | 1 => cases hx; cases hy; exact .refl _
  | n + 2 => cases hx
 ·have hs : (g.get fr).isSome = true := by cases q : (g.get fr).isSome <;> simp_all
  obtain ⟨c0, hc0⟩ := Option.isSome_iff_exists.1 hs
  have hgl := hC.len
  have hgb : ∀ s c, g.get s = some c → 0 ≤ c.1 ∧ c.1 ≤ 1000000000 ∧ 0 ≤ c.2 ∧ c.2 ≤ 1000000000 := fun s c h => by have := hC.bound s c h; omega
  rw [hc0, Option.getD_some]
  repeat' (first | (refine  CallX.mk _ _ (by first | exact cloneEd_pc E (by omega) | exact sortEd_pc E (by omega) hr) ?_; conv => whnf) | fail)
  refine loop_while3 (fun (s : ByteArray) (c : Co) (P : List Ed) => c.2.toNat) [.sl 14 126 5] [4, 6, 7, 10, 11, 13, 14, 15] (fun (s : ByteArray) (c : Co) (P : List Ed) => []) (fun (s : ByteArray) (c : Co) (P : List Ed) => [(5, .box [.int .i64 c.1, .int .i64 c.2]), (7, .row 126 5 (P.map encEd)), (8, .box [.str s])]) (fun (s : ByteArray) (c : Co) (P : List Ed) => FW E g to fr s c P) (fr) (c0) ([]) ?_
  conv => whnf
  refine ⟨?_, ?_, ?_⟩
  ·rfl
  ·exact .nil hc0
  ·intro s c P hF
   have hsc := hF.get
   have hb := hgb s c hsc
   have cI := ixEd_pc E pf g s to c 127 (nbE g s c) E (by omega) (fun e he => best2_pc E pf g s to c hpf e (hE e he).2 hgb)
   conv => whnf
   repeat' (first | (refine CondG.mk (fun h => ?_) (fun h => ?_) <;> (try simp only [qA, qB, qC, qD, qE, qF, qG, qH] at h) <;> (first | (exfalso; first | omega | exact h trivial) | (conv => whnf))) | fail)
   ·have hne2 : s ≠ to := fun q => absurd (strEqW.2 q) (by assumption)
    obtain ⟨i, hi, hb1, hb2, c', hc', he⟩ := hC.next hsc hne2
    have hix : idxP (nbE g s c) E = (i : Int) := idxP_hit hi (fun j hj => hb2 j (by omega) hj) hb1
    rw [hix] at cI
    have hF2 := FW.snoc i hi hF hne2 hb1 hb2 hc'
    have hPm := hF.few hC
    have hPl : (P.map encEd).length = P.length := List.length_map ..
    have hcd : (g.get (E[i].oth s)).getD (0, 0) = c' := by rw [hc']; rfl
    repeat' (first | (refine  CallX.mk _ _ (by first | exact cI | exact other_pc _ _) ?_; conv => whnf) | (refine .mk (by first | omega | (unfold roomOK; simp [cutRows]; done) | (unfold roomOK; simp [cutRows]; omega) | (simp [cutRows]; done) | (simp [cutRows]; omega)) ?_; conv => whnf) | ((with_reducible refine row_map (by first | assumption | omega) ?_); conv => whnf) | ((refine sm_look (ek := ekS) (ev := evCo) keyStr g (E[i].oth s) ((0, 0) : Co) rfl ?_); conv => whnf) | fail)
    have hb2' := hgb _ c' hc'
    have hc2 : c.2 = c'.2 + 1 := by rw [he]; rfl
    exact meas_next (E[i].oth s, c', P ++ [E[i]]) (by show c'.2.toNat < c.2.toNat; omega) (by rw [hcd, List.map_append]; rfl) hF2
   ·have hst : s = to := strEqW.1 (by assumption)
    subst hst
    refine .mk _ _ ⟨g, hC, rfl, .inr ⟨c, P, hF, rfl⟩⟩ (.frz 0 _ _ _ rfl (.weak [_] (.tup _ _ rfl ?_) rfl (Nat.le_refl _)))
    intro i x y hx hy
    match i with
    | 0 => cases hx; cases hy; exact .fro 0 _ _ rfl
    | 1 => cases hx; cases hy; exact .refl _
    | n + 2 => cases hx
def roomE (e : Ed) (f : Int) (s : ByteArray) : Int := if e.a = s then e.cap - f else e.cap + f
abbrev St2 := Int × ByteArray
abbrev SMt := SM ByteArray St2
structure Bfs (E : List Ed) (f : List Int) (fr : ByteArray) (Q : List ByteArray) (came : SMt) : Prop where
 ok : came.ok
 nd : Q.Nodup
 hd : Q[0]? = some fr
 mem : ∀ s, (came.get s).isSome ↔ s ∈ Q
 step : ∀ j (hj : j < Q.length), 0 < j → ∃ (i : Nat) (hi : i < E.length) (q : Nat) (hq : q < j), came.get Q[j] = some ((i : Int), Q[q]'(by omega)) ∧ E[i].at (Q[q]'(by omega)) ∧ E[i].oth (Q[q]'(by omega)) = Q[j] ∧ roomE E[i] (f.getD i 0) (Q[q]'(by omega)) ≠ 0
def Seen (E : List Ed) (f : List Int) (Q : List ByteArray) (p : Nat) : Prop := ∀ j (hj : j < Q.length), j < p → ∀ i (hi : i < E.length), E[i].at Q[j] → roomE E[i] (f.getD i 0) Q[j] ≠ 0 → E[i].oth Q[j] ∈ Q
theorem Bfs.begin (E : List Ed) (f : List Int) (fr : ByteArray) (z : St2) : Bfs E f fr [fr] (SM.nil.put fr z) where
 ok := SM.ok_nil.put _ _
 nd := by simp
 hd := rfl
 mem s := by
  rw [SM.get_put, SM.get_nil, List.mem_singleton]
  by_cases h : fr = s
  ·simp [h]
  ·simp [h]; exact fun e => h e.symm
 step j hj h := by simp at hj; omega
theorem Bfs.more {E : List Ed} {f : List Int} {fr : ByteArray} {Q : List ByteArray} {came : SMt} (h : Bfs E f fr Q came) {p i : Nat} (hp : p < Q.length) (hi : i < E.length) (hat : E[i].at Q[p]) (hr : roomE E[i] (f.getD i 0) Q[p] ≠ 0) (hn : E[i].oth Q[p] ∉ Q) :
  Bfs E f fr (Q ++ [E[i].oth Q[p]]) (came.put (E[i].oth Q[p]) ((i : Int), Q[p])) where
 ok := h.ok.put _ _
 nd := by
  rw [List.nodup_append]
  refine ⟨h.nd, by simp, ?_⟩
  intro x hx y hy e
  rw [List.mem_singleton] at hy
  subst hy; subst e
  exact hn hx
 hd := by
  rw [List.getElem?_append_left (by omega)]; exact h.hd
 mem s := by
  rw [SM.get_put, List.mem_append, List.mem_singleton]
  by_cases e : E[i].oth Q[p] = s
  ·simp [e]
  ·rw [if_neg e, h.mem s]
   constructor
   ·exact .inl
   ·rintro (q | q)
    ·exact q
    ·exact absurd q.symm e
 step j hj h0 := by
  rw [List.length_append, List.length_singleton] at hj
  by_cases e : j = Q.length
  ·subst e
   refine ⟨i, hi, p, hp, ?_⟩
   simp only [List.getElem_append_left hp]
   rw [List.getElem_append_right (Nat.le_refl _)]
   simp only [Nat.sub_self, List.getElem_cons_zero]
   exact ⟨by rw [SM.get_put, if_pos rfl], hat, trivial, hr⟩
  ·have hj' : j < Q.length := by omega
   obtain ⟨i', hi', q, hq, g1, g2, g3, g4⟩ := h.step j hj' h0
   refine ⟨i', hi', q, hq, ?_⟩
   simp only [List.getElem_append_left hj', List.getElem_append_left (show q < Q.length by omega)]
   refine ⟨?_, g2, g3, g4⟩
   rw [SM.get_put, if_neg (fun e2 => hn (by rw [e2]; exact List.getElem_mem hj'))]
   exact g1
inductive Bk (came : SMt) (fr : ByteArray) : ByteArray → List St2 → Prop
 | nil : Bk came fr fr []
 | cons {t : ByteArray} {x : St2} {P : List St2} : t ≠ fr → came.get t = some x → Bk came fr x.2 P → Bk came fr t (x :: P)
structure WayOk (E : List Ed) (f : List Int) (P : List St2) : Prop where
 valid : ∀ x ∈ P, ∃ (i : Nat) (hi : i < E.length), x.1 = (i : Int) ∧ E[i].at x.2 ∧ roomE E[i] (f.getD i 0) x.2 ≠ 0
 nd : (P.map (·.1)).Nodup
theorem ends_mem {e : Ed} {s x : ByteArray} (h : e.at s) (hx : e.at x) (hne : e.a ≠ e.b) : x = s ∨ x = e.oth s := by
 unfold Ed.at Ed.oth at *
 by_cases h1 : e.a = s
 ·rw [if_pos h1]
  rcases hx with q | q
  ·exact .inl (q.symm.trans h1)
  ·exact .inr q.symm
 ·rw [if_neg h1]
  have h2 := h.resolve_left h1
  rcases hx with q | q
  ·exact .inr q.symm
  ·exact .inl (q.symm.trans h2)
theorem Bfs.back {E : List Ed} {f : List Int} {fr : ByteArray} {Q : List ByteArray} {came : SMt} (h : Bfs E f fr Q came) (hE : EdsOk E) : ∀ (n j : Nat) (hj : j < Q.length), j < n → ∀ P, Bk came fr Q[j] P → WayOk E f P ∧ (∀ x ∈ P, ∀ (i : Nat) (hi : i < E.length), x.1 = (i : Int) → ∀ s, E[i].at s → ∃ k, ∃ hk : k < Q.length, k ≤ j ∧ Q[k] = s) ∧ P.length ≤ j
 | 0, j, hj, hn, _, _ => by omega
 | n + 1, j, hj, hn, P, hP => by
  have h00 : ∀ (h0 : 0 < Q.length), Q[0] = fr := fun h0 => by
   have := h.hd
   rw [List.getElem?_eq_getElem h0] at this
   exact Option.some.inj this
  generalize hq : Q[j] = t at hP
  cases hP with
  | nil => exact ⟨⟨fun x hx => (by cases hx), by simp⟩, fun x hx => (by cases hx), Nat.zero_le _⟩
  | @cons _ x P' hne hg hr =>
   have hj0 : 0 < j := by
    rcases Nat.eq_zero_or_pos j with e | e
    ·subst e
     exact absurd (hq.symm.trans (h00 hj)) hne
    ·exact e
   obtain ⟨i, hi, q, hql, g1, g2, g3, g4⟩ := h.step j hj hj0
   rw [hq] at g1 g3
   rw [hg] at g1; cases g1
   obtain ⟨w, hb, hlen⟩ := Bfs.back h hE n q (by omega) (by omega) P' hr
   have hne2 := (hE _ (List.getElem_mem hi)).1
   have hend : ∀ s, E[i].at s → s = Q[q] ∨ s = Q[j] := fun s hs => by
    rcases ends_mem g2 hs hne2 with e | e
    ·exact .inl e
    ·exact .inr (by rw [e, g3, hq])
   refine ⟨⟨?_, ?_⟩, ?_, by simp; omega⟩
   ·intro y hy
    rcases List.mem_cons.1 hy with e | e
    ·subst e; exact ⟨i, hi, rfl, g2, g4⟩
    ·exact w.valid y e
   ·rw [List.map_cons, List.nodup_cons]
    refine ⟨fun hm => ?_, w.nd⟩
    obtain ⟨y, hy, e⟩ := List.mem_map.1 hm
    obtain ⟨k, hk, hkq, e2⟩ := hb y hy i hi e Q[j] (by rw [hq, ← g3]; exact oth_at g2)
    have : k = j := (List.getElem_inj h.nd).1 e2
    omega
   ·intro y hy i' hi' e s hs
    rcases List.mem_cons.1 hy with e2 | e2
    ·subst e2
     have : i' = i := by have e : (i : Int) = (i' : Int) := e; omega
     subst this
     rcases hend s hs with e3 | e3
     ·exact ⟨q, by omega, by omega, e3.symm⟩
     ·exact ⟨j, hj, Nat.le_refl _, e3.symm⟩
    ·obtain ⟨k, hk, hkq, e3⟩ := hb y e2 i' hi' e s hs
     exact ⟨k, hk, by omega, e3⟩
theorem Bfs.index {E : List Ed} {f : List Int} {fr : ByteArray} {Q : List ByteArray} {came : SMt} (h : Bfs E f fr Q came) {t : ByteArray} {x : St2} (hne : t ≠ fr) (hg : came.get t = some x) : ∃ (j q : Nat) (hj : j < Q.length) (hq : q < j), Q[j] = t ∧ Q[q]'(by omega) = x.2 := by
 obtain ⟨j, hj, e⟩ := List.mem_iff_getElem.1 ((h.mem t).1 (by rw [hg]; rfl))
 have hj0 : 0 < j := by
  rcases Nat.eq_zero_or_pos j with e2 | e2
  ·subst e2
   have := h.hd
   rw [List.getElem?_eq_getElem hj, e] at this
   exact absurd (Option.some.inj this) hne
  ·exact e2
 obtain ⟨i, hi, q, hq, g1, _⟩ := h.step j hj hj0
 rw [e, hg] at g1
 exact ⟨j, q, hj, hq, e, (congrArg Prod.snd (Option.some.inj g1)).symm⟩
def ind (C : ByteArray → Bool) (s : ByteArray) : Int := if C s = true then 1 else 0
def cutF (C : ByteArray → Bool) : List Ed → List Int → Int
 | e :: r, x :: t => x * (ind C e.a - ind C e.b) + cutF C r t
 | _, _ => 0
def cutC (C : ByteArray → Bool) : List Ed → Int
 | e :: r => (if C e.a = C e.b then 0 else e.cap) + cutC C r
 | [] => 0
theorem cutF_set (C : ByteArray → Bool) (d : Int) : ∀ (E : List Ed) (f : List Int) (i : Nat) (hi : i < E.length) (hf : i < f.length), cutF C E (f.set i (f[i] + d)) = cutF C E f + d * (ind C E[i].a - ind C E[i].b)
 | [], _, i, hi, _ => by simp at hi
 | _ :: _, [], i, _, hf => by simp at hf
 | e :: r, x :: t, 0, _, _ => by
  simp only [List.set_cons_zero, List.getElem_cons_zero, cutF, Int.add_mul]; omega
 | e :: r, x :: t, i + 1, hi, hf => by
  have := cutF_set C d r t i (by simpa using hi) (by simpa using hf)
  simp only [List.set_cons_succ, List.getElem_cons_succ, cutF, this]; omega
def augS (E : List Ed) (n : Int) : List St2 → List Int → List Int
 | [], f => f
 | x :: P, f => augS E n P (f.set x.1.toNat (f.getD x.1.toNat 0 + (if (E.getD x.1.toNat ⟨⟨#[]⟩, ⟨#[]⟩, ⟨#[]⟩, 0, 0⟩).a = x.2 then n else -n)))
theorem augS_len (E : List Ed) (n : Int) : ∀ (P : List St2) (f : List Int), (augS E n P f).length = f.length
 | [], f => rfl
 | x :: P, f => by rw [augS, augS_len E n P]; simp
theorem augS_other (E : List Ed) (n : Int) : ∀ (P : List St2) (f : List Int) (i : Nat), (i : Int) ∉ P.map (·.1) → (∀ x ∈ P, 0 ≤ x.1) → (augS E n P f)[i]? = f[i]?
 | [], f, i, _, _ => rfl
 | x :: P, f, i, h, hp => by
  rw [List.map_cons, List.mem_cons, not_or] at h
  rw [augS, augS_other E n P _ i h.2 (fun y hy => hp y (by simp [hy]))]
  have := hp x (by simp)
  rw [List.getElem?_set_ne (by omega)]
structure Feas (E : List Ed) (fr to : ByteArray) (f : List Int) (sum : Int) : Prop where
 len : f.length = E.length
 in_ : ∀ i (hi : i < E.length) (hf : i < f.length), -E[i].cap ≤ f[i] ∧ f[i] ≤ E[i].cap
 cut : ∀ C : ByteArray → Bool, cutF C E f = sum * (ind C fr - ind C to)
theorem cutF_zero (C : ByteArray → Bool) : ∀ (E : List Ed) (n : Nat), cutF C E (List.replicate n 0) = 0
 | [], _ => by cases ‹Nat› <;> simp [cutF]
 | e :: r, 0 => by simp [cutF]
 | e :: r, n + 1 => by rw [List.replicate_succ, cutF, cutF_zero C r n]; simp
theorem Feas.begin {E : List Ed} (hc : ∀ e ∈ E, 0 ≤ e.cap) (fr to : ByteArray) : Feas E fr to (List.replicate E.length 0) 0 where
 len := by simp
 in_ i hi hf := by
  have := hc _ (List.getElem_mem hi)
  simp; omega
 cut C := by rw [cutF_zero]; simp
theorem step_cut {E : List Ed} (C : ByteArray → Bool) {i : Nat} (hi : i < E.length) {s : ByteArray} (hat : E[i].at s) (n : Int) :
  (if E[i].a = s then n else -n) * (ind C E[i].a - ind C E[i].b) = n * (ind C s - ind C (E[i].oth s)) := by
 unfold Ed.oth
 by_cases h : E[i].a = s
 ·rw [if_pos h, if_pos h, h]
 ·have h2 := hat.resolve_left h
  rw [if_neg h, if_neg h, h2, Int.neg_mul, ← Int.mul_neg]
  congr 1; omega
theorem aug_cut {E : List Ed} {fr : ByteArray} {came : SMt} {f : List Int} (hlen : f.length = E.length) (n : Int) (C : ByteArray → Bool)
  (hst : ∀ t x, t ≠ fr → came.get t = some x → ∃ (i : Nat) (hi : i < E.length), x.1 = (i : Int) ∧ E[i].at x.2 ∧ E[i].oth x.2 = t) : ∀ (P : List St2) (t : ByteArray) (g : List Int), g.length = E.length → Bk came fr t P → cutF C E (augS E n P g) = cutF C E g + n * (ind C fr - ind C t) := by
 intro P
 induction P with
 | nil =>
  intro t g _ h
  cases h
  rw [augS, Int.sub_self, Int.mul_zero, Int.add_zero]
 | cons x P ih =>
  intro t g hg h
  cases h with
  | cons hne hx hr =>
   obtain ⟨i, hi, e1, e2, e3⟩ := hst t x hne hx
   have hi2 : i < g.length := by omega
   rw [augS, ih x.2 _ (by simp; omega) hr, e1, Int.toNat_natCast, List.getD_eq_getElem?_getD, List.getElem?_eq_getElem hi2, Option.getD_some, List.getD_eq_getElem?_getD, List.getElem?_eq_getElem hi, Option.getD_some, cutF_set C _ E g i hi hi2, step_cut C hi e2, e3]
   have : n * (ind C fr - ind C t) = n * (ind C x.2 - ind C t) + n * (ind C fr - ind C x.2) := by rw [← Int.mul_add]; congr 1; omega
   omega
theorem aug_in {E : List Ed} (n : Int) (h0 : 0 ≤ n) : ∀ (P : List St2) (f : List Int), f.length = E.length → WayOk E f P → (∀ x ∈ P, ∀ i (hi : i < E.length), x.1 = (i : Int) → n ≤ roomE E[i] (f.getD i 0) x.2) →
  (∀ i (hi : i < E.length) (hf : i < f.length), -E[i].cap ≤ f[i] ∧ f[i] ≤ E[i].cap) → ∀ i (hi : i < E.length) (hf : i < (augS E n P f).length), -E[i].cap ≤ (augS E n P f)[i] ∧ (augS E n P f)[i] ≤ E[i].cap
 | [], f, _, _, _, h, i, hi, hf => h i hi hf
 | x :: P, f, hl, hw, hr, h, i, hi, hf => by
  obtain ⟨k, hk, e1, e2, e3⟩ := hw.valid x (by simp)
  have hkl : k < f.length := by omega
  have hn := hr x (by simp) k hk e1
  have hb := h k hk hkl
  have hnd := hw.nd
  rw [List.map_cons, List.nodup_cons] at hnd
  have hfk : f.getD k 0 = f[k] := by simp [hkl]
  rw [hfk] at hn
  have hEk : E.getD k ⟨⟨#[]⟩, ⟨#[]⟩, ⟨#[]⟩, 0, 0⟩ = E[k] := by simp [hk]
  have hoth : ∀ j, j ≠ k → ∀ v, (f.set k v).getD j 0 = f.getD j 0 := fun j hj v => by
   rw [List.getD_eq_getElem?_getD, List.getD_eq_getElem?_getD, List.getElem?_set_ne (Ne.symm hj)]
  have hkP : ∀ y ∈ P, ∀ j : Nat, y.1 = (j : Int) → j ≠ k := fun y hy j e q => by
   subst q
   exact hnd.1 (by rw [e1, ← e]; exact List.mem_map.2 ⟨y, hy, rfl⟩)
  revert hf
  rw [augS, e1, Int.toNat_natCast, hfk, hEk]
  intro hf
  refine aug_in n h0 P _ (by simp; omega) ⟨?_, hnd.2⟩ ?_ ?_ i hi hf
  ·intro y hy
   obtain ⟨j, hj, q1, q2, q3⟩ := hw.valid y (by simp [hy])
   exact ⟨j, hj, q1, q2, by rw [hoth j (hkP y hy j q1)]; exact q3⟩
  ·intro y hy j hj q1
   rw [hoth j (hkP y hy j q1)]
   exact hr y (by simp [hy]) j hj q1
  ·intro j hj hf2
   by_cases q : k = j
   ·subst q
    rw [List.getElem_set_self]
    unfold roomE at hn
    split
    ·rename_i q2
     rw [if_pos q2] at hn; omega
    ·rename_i q2
     rw [if_neg q2] at hn; omega
   ·rw [List.getElem_set_ne q]
    exact h j hj (by simpa using hf2)
theorem cutF_le (C : ByteArray → Bool) : ∀ (E : List Ed) (f : List Int), (∀ i (hi : i < E.length) (hf : i < f.length), -E[i].cap ≤ f[i] ∧ f[i] ≤ E[i].cap) → (∀ e ∈ E, 0 ≤ e.cap) → cutF C E f ≤ cutC C E
 | [], f, _, _ => by cases f <;> simp [cutF, cutC]
 | e :: r, [], _, hc => by
  have : ∀ E : List Ed, (∀ e ∈ E, 0 ≤ e.cap) → 0 ≤ cutC C E := by
   intro E
   induction E with
   | nil => intro _; simp [cutC]
   | cons a t ih =>
    intro h
    have h1 := ih (fun x hx => h x (by simp [hx]))
    have h2 := h a (by simp)
    simp only [cutC]; split <;> omega
  simp only [cutF]
  exact this _ hc
 | e :: r, x :: t, h, hc => by
  have ih := cutF_le C r t (fun i hi hf => h (i + 1) (by simpa using hi) (by simpa using hf)) (fun y hy => hc y (by simp [hy]))
  have h0 := h 0 (by simp) (by simp)
  simp only [List.getElem_cons_zero] at h0
  have hce := hc e (by simp)
  simp only [cutF, cutC]
  unfold ind
  cases ha : C e.a <;> cases hb : C e.b <;> simp <;> omega
theorem cut_full {E : List Ed} {f : List Int} (C : ByteArray → Bool) : ∀ (E : List Ed) (f : List Int), f.length = E.length → (∀ i (hi : i < E.length), (C E[i].a = true → C E[i].b = false → f.getD i 0 = E[i].cap) ∧ (C E[i].a = false → C E[i].b = true → f.getD i 0 = -E[i].cap)) → cutF C E f = cutC C E
 | [], f, _, _ => by cases f <;> simp [cutF, cutC]
 | e :: r, [], h, _ => by simp at h
 | e :: r, x :: t, hl, h => by
  have ih := cut_full (E := E) (f := f) C r t (by simpa using hl) (fun i hi => by have := h (i + 1) (by simpa using hi); simp only [List.getElem_cons_succ, List.getD_cons_succ] at this; exact this)
  have h0 := h 0 (by simp)
  simp only [List.getElem_cons_zero] at h0
  simp only [cutF, cutC, ih]
  unfold ind
  cases ha : C e.a <;> cases hb : C e.b <;> simp [ha, hb] at h0 ⊢ <;> omega
def MinCut (E : List Ed) (fr to : ByteArray) (n : Int) : Prop := (∃ C : ByteArray → Bool, C fr = true ∧ C to = false ∧ cutC C E = n) ∧ ∀ C : ByteArray → Bool, C fr = true → C to = false → n ≤ cutC C E
theorem Feas.le {E : List Ed} {fr to : ByteArray} {f : List Int} {sum : Int} (h : Feas E fr to f sum) (hc : ∀ e ∈ E, 0 ≤ e.cap) (C : ByteArray → Bool) (h1 : C fr = true) (h2 : C to = false) : sum ≤ cutC C E := by
 have h3 := cutF_le C E f (fun i hi hf => h.in_ i hi hf) hc
 rw [h.cut C] at h3
 unfold ind at h3
 rw [if_pos h1, if_neg (by rw [h2]; decide)] at h3
 omega
def inQ (Q : List ByteArray) (s : ByteArray) : Bool := Q.any fun x => decide (x = s)
theorem inQ_t {Q : List ByteArray} {s : ByteArray} : inQ Q s = true ↔ s ∈ Q := by simp [inQ]
theorem inQ_f {Q : List ByteArray} {s : ByteArray} : inQ Q s = false ↔ s ∉ Q := by rw [← inQ_t]; simp
theorem flow_done {E : List Ed} {fr to : ByteArray} {f : List Int} {sum : Int} {Q : List ByteArray} {came : SMt} (hF : Feas E fr to f sum) (hB : Bfs E f fr Q came) (hS : Seen E f Q Q.length) (hto : to ∉ Q) (hE : EdsOk E) (hc : ∀ e ∈ E, 0 ≤ e.cap) : MinCut E fr to sum := by
 have hfr : fr ∈ Q := by
  have := hB.hd
  exact List.mem_of_getElem? this
 refine ⟨⟨inQ Q, inQ_t.2 hfr, inQ_f.2 hto, ?_⟩, fun C h1 h2 => hF.le hc C h1 h2⟩
 have h1 := hF.cut (inQ Q)
 have h2 : cutF (inQ Q) E f = cutC (inQ Q) E := by
  refine cut_full (E := E) (f := f) _ E f hF.len fun i hi => ?_
  have hne := (hE _ (List.getElem_mem hi)).1
  refine ⟨fun ha hb => ?_, fun ha hb => ?_⟩
  ·rw [inQ_t] at ha
   rw [inQ_f] at hb
   obtain ⟨j, hj, e⟩ := List.mem_iff_getElem.1 ha
   by_cases hr : roomE E[i] (f.getD i 0) Q[j] = 0
   ·unfold roomE at hr
    rw [if_pos e.symm] at hr; omega
   ·have := hS j hj hj i hi (.inl e.symm) hr
    unfold Ed.oth at this
    rw [if_pos e.symm] at this
    exact absurd this hb
  ·rw [inQ_f] at ha
   rw [inQ_t] at hb
   obtain ⟨j, hj, e⟩ := List.mem_iff_getElem.1 hb
   have hna : ¬ E[i].a = Q[j] := fun q => ha (by rw [q]; exact List.getElem_mem hj)
   by_cases hr : roomE E[i] (f.getD i 0) Q[j] = 0
   ·unfold roomE at hr
    rw [if_neg hna] at hr; omega
   ·have := hS j hj hj i hi (.inr e.symm) hr
    unfold Ed.oth at this
    rw [if_neg hna] at this
    exact absurd this ha
 rw [h2] at h1
 rw [h1]
 unfold ind
 rw [if_pos (inQ_t.2 hfr), if_neg (by rw [inQ_f.2 hto]; decide)]
 omega
theorem feas_aug {E : List Ed} {fr to : ByteArray} {f : List Int} {sum n : Int} {Q : List ByteArray} {came : SMt} {P : List St2} (hF : Feas E fr to f sum) (hB : Bfs E f fr Q came) (hE : EdsOk E) (hP : Bk came fr to P) (hto : to ∈ Q) (h0 : 0 ≤ n)
  (hn : ∀ x ∈ P, ∀ i (hi : i < E.length), x.1 = (i : Int) → n ≤ roomE E[i] (f.getD i 0) x.2) : Feas E fr to (augS E n P f) (sum + n) where
 len := by rw [augS_len]; exact hF.len
 in_ := by
  obtain ⟨j, hj, e⟩ := List.mem_iff_getElem.1 hto
  subst e
  exact aug_in n h0 P f hF.len (hB.back hE (j + 1) j hj (Nat.lt_succ_self _) P hP).1 hn (fun i hi hf => hF.in_ i hi hf)
 cut C := by
  have hst : ∀ t x, t ≠ fr → came.get t = some x → ∃ (i : Nat) (hi : i < E.length), x.1 = (i : Int) ∧ E[i].at x.2 ∧ E[i].oth x.2 = t := by
   intro t x hne hg
   obtain ⟨j, q, hj, hq, e1, e2⟩ := hB.index hne hg
   obtain ⟨i, hi, q', hq', g1, g2, g3, _⟩ := hB.step j hj (by omega)
   rw [e1, hg] at g1
   have g1 := Option.some.inj g1
   refine ⟨i, hi, by rw [g1], ?_, ?_⟩
   ·rw [g1]; exact g2
   ·rw [g1, ← e1]; exact g3
  rw [aug_cut hF.len n C hst P to f hF.len hP, hF.cut C, Int.add_mul]
theorem way_room {E : List Ed} {fr to : ByteArray} {f : List Int} {sum : Int} {Q : List ByteArray} {came : SMt} {P : List St2} (hF : Feas E fr to f sum) (hB : Bfs E f fr Q came) (hE : EdsOk E) (hP : Bk came fr to P) (hto : to ∈ Q) :
  P.length ≤ Q.length ∧ ∀ x ∈ P, ∃ (i : Nat) (hi : i < E.length), x.1 = (i : Int) ∧ E[i].at x.2 ∧ 0 < roomE E[i] (f.getD i 0) x.2 ∧ roomE E[i] (f.getD i 0) x.2 ≤ 2 * E[i].cap := by
 obtain ⟨j, hj, e⟩ := List.mem_iff_getElem.1 hto
 subst e
 obtain ⟨w, _, hl⟩ := hB.back hE (j + 1) j hj (Nat.lt_succ_self _) P hP
 refine ⟨by omega, fun x hx => ?_⟩
 obtain ⟨i, hi, e1, e2, e3⟩ := w.valid x hx
 have hfi : i < f.length := by rw [hF.len]; exact hi
 have := hF.in_ i hi hfi
 have hfd : f.getD i 0 = f[i] := by simp [hfi]
 refine ⟨i, hi, e1, e2, ?_, ?_⟩
 ·rw [hfd] at e3 ⊢
  unfold roomE at e3 ⊢
  split at e3 <;> rename_i q
  ·rw [if_pos q]; omega
  ·rw [if_neg q]; omega
 ·rw [hfd]; unfold roomE; split <;> omega
section
variable {E : List Ed} {g : CM} {to fr : ByteArray}
end
theorem ixDuK_pc (key : ByteArray) (g : Nat) (p : Du → Bool) (l : List Du) (hl : l.length ≤ 1000000) (hg : ∀ x ∈ l, PCp g [.agg (encDu x), .c (.ptr 0 0)] [.box [.str key]] (.c (.bool (p x))) [.box [.str key]]) : PCp 106 [.c (.lst 5 (l.map encDu)), .c (.fn g [.ptr 0 0])] [.box [.str key]] (.c (.int .i64 (idxP p l))) [.box [.str key]] := by
 have hlm : (l.map encDu).length = l.length := List.length_map ..
 refine fnP Tryz.func106 Tryz.results106 ?_
 conv => whnf
 refine loop_count (l.length) [] [0, 1, 7, 8] (fun k (_ : Unit) => ⟨[(0, .c (.lst 5 (l.map encDu))), (1, .c (.fn g [.ptr 0 0])), (7, .c (.int .i64 (l.map encDu).length)), (8, .c (.int .i64 k))], [(0, .box [.str key])], 1⟩) (fun k (_ : Unit) => ∀ i (hi : i < l.length), i < k → p l[i] = false) (()) ?_ ?_ ?_
 ·conv => whnf
  exact ⟨rfl, by intro i hi h; omega⟩
 ·intro k _ hk hi
  conv => whnf
  repeat' (first | (refine CondG.mk (fun h => ?_) (fun h => ?_) <;> (try simp only [qA, qB, qC, qD, qE, qF, qG, qH] at h) <;> (first | (exfalso; first | omega | exact h trivial) | (conv => whnf))) | (refine  CallX.mk _ _ (by exact hg l[k] (List.getElem_mem hk)) ?_; conv => whnf) | (refine idx_at _ (by with_reducible rfl) (by first | assumption | omega) ?_; conv => whnf) | fail)
  ·exact .mk ⟨by rw [idxP_hit hk (fun i hi' => hi i (by omega) hi') h]; rfl, rfl⟩
  ·refine count_next () hk (by rw [wrap_succ hk (by omega)]; rfl) ?_
   exact all_succ' hi h
 ·intro _ hi
  conv => whnf
  repeat' (first | (refine CondG.mk (fun h => ?_) (fun h => ?_) <;> (try simp only [decide_eq_true_eq, decide_eq_false_iff_not, Bool.not_eq_true', Bool.not_eq_false', beq_iff_eq, beq_eq_false_iff_ne] at h) <;> (first | (exfalso; first | omega | exact h trivial) | (conv => whnf))) | fail)
  exact .mk ⟨by rw [idxP_miss (fun i h => hi i h h)]; rfl, rfl⟩
theorem ixDuKC_pc (key : ByteArray) (g : Nat) (p : Du → Bool) (l : List Du) (hl : l.length ≤ 1000000) (hg : ∀ x ∈ l, PCp g [.agg (encDu x), .c (.ptr 0 0)] [.box [.str key]] (.c (.bool (p x))) [.box [.str key]]) : PCp 56 [.c (.lst 5 (l.map encDu)), .c (.fn g [.ptr 0 0])] [.box [.str key]] (.c (.bool (l.any p))) [.box [.str key]] := by
 refine fnP Tryz.func56 Tryz.results56 ?_
 conv => whnf
 repeat' (first | (refine  CallX.mk _ _ (by exact ixDuK_pc key g p l hl hg) ?_; conv => whnf) | fail)
 exact .mk ⟨by rw [← idxP_any]; rfl, rfl⟩
def isStr (t : S) : Prop := ∃ key : ByteArray, t = .c (.str key)
theorem bsDu_pc (g : Nat) (c : Du → Int) (t : S) (l : List Du) (hl : l.length ≤ 1000000) (hmono : ∀ i j (hj : j < l.length) (hij : i ≤ j), c l[j] < 0 → c (l[i]'(by omega)) < 0) (ht : isStr t) (hg : ∀ x ∈ l, PCp g [.agg (encDu x), t] [] (.c (.int .i64 (c x))) []) :
  PCp 92 [.c (.lst 5 (l.map encDu)), t, .c (.fn g [])] [] (.tup [.c (.int .i64 ((cntL c l : Nat) : Int)), .c (.bool (hitL c l))]) [] := by
 have hlm : (l.map encDu).length = l.length := List.length_map ..
 obtain ⟨key, rfl⟩ := ht
 refine fnP Tryz.func92 Tryz.results92 ?_
 conv => whnf
 refine loop_meas2 (fun (i : Nat) (j : Nat) => j - i) [] [0, 1, 2, 8, 9, 10] (fun (i : Nat) (j : Nat) => ⟨[(0, .c (.lst 5 (l.map encDu))), (1, .c (.str key)), (2, .c (.fn g [])), (8, .c (.int .i64 (l.map encDu).length)), (9, .c (.int .i64 ((i : Nat) : Int))), (10, .c (.int .i64 ((j : Nat) : Int)))], [], 0⟩) (fun (i : Nat) (j : Nat) => i ≤ j ∧ j ≤ l.length ∧ (∀ k (h : k < l.length), k < i → c l[k] < 0) ∧ (∀ k (h : k < l.length), j ≤ k → ¬ c l[k] < 0)) (0) (l.length) ?_ ?_
 ·conv => whnf
  exact ⟨by rw [hlm]; rfl, Nat.zero_le _, Nat.le_refl _, by intro k h h2; omega, by intro k h h2; omega⟩
 ·intro i j ⟨h1, h2, h3, h4⟩
  have hmid := mid_eq (i := i) (j := j) (by omega)
  conv => whnf
  repeat' (first | (refine .mk (fun h => ?_) (fun h => ?_) <;> (try simp only [qA, qB, qC, qD, qE, qF, qG, qH] at h) <;> (first | (exfalso; first | omega | exact h trivial) | (conv => whnf))) | (refine .mk (by first | omega | (unfold roomOK; simp [cutRows]; done) | (unfold roomOK; simp [cutRows]; omega) | (simp [cutRows]; done) | (simp [cutRows]; omega)) ?_; conv => whnf) | (refine idx_at _ (by with_reducible rfl) (by first | assumption | omega) ?_; conv => whnf) | fail)
  ·rw [hmid]
   refine idx_map ((i + j) / 2) (by omega) rfl ?_
   conv => whnf
   repeat' (first | (refine CondG.mk (fun h => ?_) (fun h => ?_) <;> (try simp only [decide_eq_true_eq, decide_eq_false_iff_not, Bool.not_eq_true', Bool.not_eq_false', beq_iff_eq, beq_eq_false_iff_ne] at h) <;> (first | (exfalso; first | omega | exact h trivial) | (conv => whnf))) | (refine  CallX.mk _ _ (by exact hg (l[(i + j) / 2]'(by omega)) (List.getElem_mem _)) ?_; conv => whnf) | fail)
   ·exact meas_next ((i + j) / 2 + 1, j) (by simp only; omega) (by rw [wrap_succ (n := l.length) (by omega) (by omega)]; rfl) ⟨by simp only; omega, h2, fun k hk hki => hmono k ((i + j) / 2) (by omega) (by simp only at hki; omega) h, h4⟩
   ·exact meas_next (i, (i + j) / 2) (by simp only; omega) rfl ⟨by simp only; omega, by simp only; omega, h3, fun k hk hki => fun hc => h (hmono ((i + j) / 2) k hk hki hc)⟩
  all_goals
   have hij : i = j := by omega
   subst hij
   have hci : cntL c l = i := cntL_at h2 h3 h4
  ·repeat' (first
    | (refine CallX.mk _ _ (by exact hg (l[i]'(by omega)) (List.getElem_mem _)) ?_; conv => whnf)
    | fail)
   exact .mk ⟨by rw [hitL, hci, List.getElem?_eq_getElem (show i < l.length by omega)]; rfl, rfl⟩
  ·exact .mk ⟨by rw [hitL, hci, List.getElem?_eq_none (show l.length ≤ i by omega)]; rfl, rfl⟩
theorem isNaNS_pc (s : ByteArray) : PCp 171 [.c (.str s)] [] (.c (.bool false)) [] := by
 refine fnP Tryz.func171 Tryz.results171 ?_
 conv => whnf
 exact finb (by simp)
theorem cisNaNS_pc (s : ByteArray) : PCp 169 [.c (.str s)] [] (.c (.bool false)) [] := by
 refine fnP Tryz.func169 Tryz.results169 ?_
 conv => whnf
 exact finb (by simp)
theorem lessS_pc (a b : ByteArray) : PCp 136 [.c (.str a), .c (.str b)] [] (.c (.bool (ltB a b))) [] := by
 refine fnP Tryz.func136 Tryz.results136 ?_
 conv => whnf
 repeat' (first | (refine Split.mk (fun h => ?_) (fun h => ?_) <;> (try simp only [qA, qB, qC, qD, qE, qF, qG, qH] at h) <;> (first | (exfalso; first | omega | exact h trivial) | (conv => whnf))) | (refine  CallX.mk _ _ (by exact cisNaNS_pc _) ?_; conv => whnf) | fail)
 all_goals exact finb (by simp_all [ltB])
def cntS (t : ByteArray) (l : List ByteArray) : Nat := cntL (fun x => if ltB x t then -1 else if x.toList = t.toList then 0 else 1) l
def hitS (t : ByteArray) (l : List ByteArray) : Bool := hitL (fun x => if ltB x t then -1 else if x.toList = t.toList then 0 else 1) l
theorem binS_pc (t : ByteArray) (l : List ByteArray) (hl : l.length ≤ 1000000) (hmono : ∀ i j (hj : j < l.length) (hij : i ≤ j), ltB l[j] t = true → ltB (l[i]'(by omega)) t = true) :
  PCp 146 [.c (.lst 1 (l.map encS)), .c (.str t)] [] (.tup [.c (.int .i64 ((cntS t l : Nat) : Int)), .c (.bool (hitS t l))]) [] := by
 have hlm : (l.map encS).length = l.length := List.length_map ..
 have hc : ∀ x : ByteArray, (if ltB x t then (-1 : Int) else if x.toList = t.toList then 0 else 1) < 0 ↔ ltB x t = true := by
  intro x; split
  ·simp_all
  ·split <;> simp_all
 refine fnP Tryz.func146 Tryz.results146 ?_
 conv => whnf
 refine loop_meas2 (fun (i : Nat) (j : Nat) => j - i) [] [0, 1, 6, 7, 8] (fun (i : Nat) (j : Nat) => ⟨[(0, .c (.lst 1 (l.map encS))), (1, .c (.str t)), (6, .c (.int .i64 (l.map encS).length)), (7, .c (.int .i64 ((i : Nat) : Int))), (8, .c (.int .i64 ((j : Nat) : Int)))], [], 0⟩) (fun (i : Nat) (j : Nat) => i ≤ j ∧ j ≤ l.length ∧ (∀ k (h : k < l.length), k < i → ltB l[k] t = true) ∧ (∀ k (h : k < l.length), j ≤ k → ¬ ltB l[k] t = true)) (0) (l.length) ?_ ?_
 ·conv => whnf
  exact ⟨by rw [hlm]; rfl, Nat.zero_le _, Nat.le_refl _, by intro k h h2; omega, by intro k h h2; omega⟩
 ·intro i j ⟨h1, h2, h3, h4⟩
  have hmid := mid_eq (i := i) (j := j) (by omega)
  conv => whnf
  repeat' (first | (refine .mk (fun h => ?_) (fun h => ?_) <;> (try simp only [qA, qB, qC, qD, qE, qF, qG, qH] at h) <;> (first | (exfalso; first | omega | exact h trivial) | (conv => whnf))) | (refine .mk (by first | omega | (unfold roomOK; simp [cutRows]; done) | (unfold roomOK; simp [cutRows]; omega) | (simp [cutRows]; done) | (simp [cutRows]; omega)) ?_; conv => whnf) | (refine idx_at _ (by with_reducible rfl) (by first | assumption | omega) ?_; conv => whnf) | fail)
  ·rw [hmid]
   refine idx_map ((i + j) / 2) (by omega) rfl ?_
   conv => whnf
   repeat' (first | (refine CondG.mk (fun h => ?_) (fun h => ?_) <;> (try simp only [decide_eq_true_eq, decide_eq_false_iff_not, Bool.not_eq_true', Bool.not_eq_false', beq_iff_eq, beq_eq_false_iff_ne] at h) <;> (first | (exfalso; first | omega | exact h trivial) | (conv => whnf))) | (refine  CallX.mk _ _ (by exact lessS_pc _ _) ?_; conv => whnf) | fail)
   ·exact meas_next ((i + j) / 2 + 1, j) (by simp only; omega) (by rw [wrap_succ (n := l.length) (by omega) (by omega)]; rfl) ⟨by simp only; omega, h2, fun k hk hki => hmono k ((i + j) / 2) (by omega) (by simp only at hki; omega) h, h4⟩
   ·exact meas_next (i, (i + j) / 2) (by simp only; omega) rfl ⟨by simp only; omega, by simp only; omega, h3, fun k hk hki => fun hc => (by rw [hmono ((i + j) / 2) k hk hki hc] at h; cases h)⟩
  all_goals
   have hij : i = j := by omega
   subst hij
   have hci : cntS t l = i := cntL_at h2 (fun k hk hki => (hc _).2 (h3 k hk hki)) (fun k hk hki => fun e => h4 k hk hki ((hc _).1 e))
  ·have hh : hitS t l = true := by
    unfold hitS hitL
    unfold cntS at hci
    rw [hci, List.getElem?_eq_getElem (show i < l.length by omega)]
    have h5 : ltB (l[i]'(by omega)) t = false := by simpa using h4 i (by omega) (Nat.le_refl _)
    have h6 : (l[i]'(by omega)).toList = t.toList := by assumption
    simp [h5, h6]
   exact .mk ⟨by rw [hci, hh]; rfl, rfl⟩
  ·have hh : hitS t l = false := by
    unfold hitS hitL
    unfold cntS at hci
    rw [hci, List.getElem?_eq_getElem (show i < l.length by omega)]
    have h5 : ltB (l[i]'(by omega)) t = false := by simpa using h4 i (by omega) (Nat.le_refl _)
    have h6 : ¬ (l[i]'(by omega)).toList = t.toList := by assumption
    simp [h5, h6]
   repeat' (first | (refine Split.mk (fun h => ?_) (fun h => ?_) <;> (try simp only [qA, qB, qC, qD, qE, qF, qG, qH] at h) <;> (first | (exfalso; first | omega | exact h trivial) | (conv => whnf))) | (refine  CallX.mk _ _ (by exact isNaNS_pc _) ?_; conv => whnf) | fail)
   all_goals exact .mk ⟨by rw [hci, hh]; rfl, rfl⟩
  ·exact .mk ⟨by rw [hci]; unfold hitS hitL; unfold cntS at hci; rw [hci, List.getElem?_eq_none (show l.length ≤ i by omega)]; rfl, rfl⟩
theorem cloneI_pc (l : List Int) (hl : l.length ≤ 1000000) : PCp 97 [.c (.lst 1 (l.map encI))] [] (.c (.row 0)) [.row 3 1 (l.map encI)] := by
 have hlm : (l.map encI).length = l.length := List.length_map ..
 refine fnP Tryz.func97 Tryz.results97 ?_
 conv => whnf
 refine .mk (fun h => ?_) ?_
 ·conv => whnf
  exact .own 3 1 rfl rfl (by rw [h]; rfl)
 ·conv => whnf
  repeat' (first | (refine AppG.mk (by first | omega | (unfold roomOK; simp [cutRows]; done) | (unfold roomOK; simp [cutRows]; omega)) ?_; conv => whnf) | fail)
  exact .mk ⟨rfl, rfl⟩
theorem cloneS_pc (l : List ByteArray) (hl : l.length ≤ 1000000) : PCp 63 [.c (.lst 1 (l.map encS))] [] (.c (.row 0)) [.row 9 1 (l.map encS)] := by
 have hlm : (l.map encS).length = l.length := List.length_map ..
 refine fnP Tryz.func63 Tryz.results63 ?_
 conv => whnf
 refine .mk (fun h => ?_) ?_
 ·conv => whnf
  exact .own 9 1 rfl rfl (by rw [h]; rfl)
 ·conv => whnf
  repeat' (first | (refine AppG.mk (by first | omega | (unfold roomOK; simp [cutRows]; done) | (unfold roomOK; simp [cutRows]; omega)) ?_; conv => whnf) | fail)
  exact .mk ⟨rfl, rfl⟩
theorem overR_map {α : Type} {enc : α → List V} {a b c : List α} {o : Nat} (ho : o = a.length) : overR ((a ++ c).map enc) (b.map enc) o = (a ++ b ++ c.drop b.length).map enc := by
 subst ho
 unfold overR
 simp [List.take_append, List.drop_append]
theorem and_mask (n : Nat) (h : n < 4294967296) : bitsV .and .u64 (n : Int) 4294967295 = (n : Int) := by
 have h1 : (BitVec.ofInt 64 (n : Int)).toNat = n := by
  rw [BitVec.ofInt_natCast, BitVec.toNat_ofNat]; exact Nat.mod_eq_of_lt (by omega)
 have h2 : (BitVec.ofInt 64 (4294967295 : Int)).toNat = 2 ^ 32 - 1 := by decide
 show IntKind.u64.wrap (((BitVec.ofInt 64 (n : Int) &&& BitVec.ofInt 64 4294967295).toNat : Nat) : Int) = n
 rw [BitVec.toNat_and, h1, h2, Nat.and_two_pow_sub_one_eq_mod, Nat.mod_eq_of_lt (by omega)]
 exact IntWalk.u64_in _ ⟨by omega, by omega⟩
theorem shr32 (n : Nat) (h : n < 4294967296) : shV .shr .u64 (n : Int) 32 = 0 := by
 show Int.fdiv (n : Int) (2 ^ 32) = 0
 rw [Int.fdiv_eq_ediv_of_nonneg _ (by omega)]; omega
theorem u64_nat (n : Nat) (h : n < 4294967296) : IntKind.u64.wrap (n : Int) = n := IntWalk.u64_in _ ⟨by omega, by omega⟩
theorem mul64_pc (a b : Nat) (ha : a ≤ 1000) (hb : b ≤ 1000) : PCp 188 [.c (.int .u64 a), .c (.int .u64 b)] [] (.tup [.c (.int .u64 0), .c (.int .u64 ((a * b : Nat) : Int))]) [] := by
 have hab : a * b ≤ 1000000 := Nat.le_trans (Nat.mul_le_mul ha hb) (by decide)
 have e0 : bitsV .and .u64 0 4294967295 = 0 := and_mask 0 (by decide)
 have s0 : shV .shr .u64 0 32 = 0 := shr32 0 (by decide)
 refine fnP Tryz.func188 Tryz.results188 ?_
 conv => whnf
 repeat' (first | (refine .mk (by first | omega | (unfold roomOK; simp [cutRows]; done) | (unfold roomOK; simp [cutRows]; omega) | (simp [cutRows]; done) | (simp [cutRows]; omega)) ?_; conv => whnf) | fail)
 refine .mk ⟨?_, rfl⟩
 rw [and_mask a (by omega), and_mask b (by omega), shr32 a (by omega), shr32 b (by omega)]
 have w0 : IntKind.u64.wrap 0 = 0 := rfl
 have hm : IntKind.u64.wrap ((a : Int) * (b : Int)) = ((a * b : Nat) : Int) := by rw [← Int.natCast_mul]; exact u64_nat _ (by omega)
 simp only [Int.zero_mul, Int.mul_zero, w0, hm, shr32 (a * b) (by omega), Int.add_zero, e0, s0]
 rfl
theorem mul_pc (a b : Nat) (ha : a ≤ 1000) (hb : b ≤ 1000) : PCp 173 [.c (.int .u64 a), .c (.int .u64 b)] [] (.tup [.c (.int .u64 0), .c (.int .u64 ((a * b : Nat) : Int))]) [] := by
 refine fnP Tryz.func173 Tryz.results173 ?_
 conv => whnf
 repeat' (first | (refine  CallX.mk _ _ (by exact mul64_pc a b ha hb) ?_; conv => whnf) | fail)
 exact .mk ⟨rfl, rfl⟩
theorem repeatI_pc (x : Int) (n : Nat) (hn : n ≤ 1000) : PCp 149 [.c (.lst 1 ([x].map encI)), .c (.int .i64 n)] [] (.c (.row 0)) [.row 3 1 ((List.replicate n x).map encI)] := by
 have hw : IntKind.u64.wrap (n : Int) = n := u64_nat n (by omega)
 have hw1 : IntKind.u64.wrap (([x].map encI).length : Nat) = ((1 : Nat) : Int) := rfl
 have hi : IntKind.i64.wrap (((1 * n : Nat)) : Int) = n := by rw [Nat.one_mul]; exact wrap_in (by omega) (by omega)
 have hg : decide ((9223372036854775807 : Int) < ((1 * n : Nat) : Int)) = false := decide_eq_false (by omega)
 refine fnP Tryz.func149 Tryz.results149 ?_
 conv => whnf
 repeat' (first | (refine CondG.mk (fun h => ?_) (fun h => ?_) <;> (try simp only [qA, qB, qC, qD, qE, qF, qG, qH] at h) <;> (first | (exfalso; first | omega | exact h trivial) | (conv => whnf))) | fail)
 rw [hw, hw1]
 repeat' (first | (refine .mk (fun h => ?_) (fun h => ?_) <;> (try simp only [qA, qB, qC, qD, qE, qF, qG, qH] at h) <;> (first | (exfalso; first | omega | exact h trivial) | (conv => whnf))) | (refine  CallX.mk _ _ (by exact mul_pc 1 n (by omega) hn) ?_; conv => whnf) | fail)
 ·rw [hi]
  refine .mk ⟨rfl, by omega, by unfold roomOK; simp; omega⟩ ?_
  conv => whnf
  skip
  refine loop_while (fun (m : Nat) => n - m) [] [7, 8] (fun (m : Nat) => [(8, .c (.int .i64 (m : Int)))]) (fun (m : Nat) => [(0, .row 3 1 ((List.replicate m x ++ List.replicate (n - m) 0).map encI))]) (fun (m : Nat) => m ≤ n ∧ (m = 0 → n = 0)) (min 1 n) ?_
  conv => whnf
  refine ⟨?_, ?_, ?_⟩
  ·have hz : (List.replicate n ([.int .i64 0] : List V)) = (List.replicate n (0 : Int)).map encI := by simp [encI]
   have h1 := overR_map (enc := encI) (a := []) (b := [x].take n) (c := List.replicate n (0 : Int)) (o := 0) rfl
   simp only [List.nil_append] at h1
   rw [← hz] at h1
   have h2 : [x].take n ++ (List.replicate n (0 : Int)).drop ([x].take n).length = List.replicate (min 1 n) x ++ List.replicate (n - min 1 n) 0 := by
    cases n with
    | zero => rfl
    | succ n => simp [show min 1 (n + 1) = 1 by omega]
   rw [h2, List.map_take] at h1
   simp only [Int.toNat_natCast, List.length_replicate, List.length_map, List.length_cons, List.length_nil]
   rw [h1]
   rfl
  ·exact ⟨by omega, by omega⟩
  ·rintro m ⟨h1, h2⟩
   have hlm : ((List.replicate m x ++ List.replicate (n - m) 0).map encI).length = n := by simp; omega
   conv => whnf
   refine .mk (fun h => ?_) (fun h => ?_)
   ·simp only [decide_eq_true_eq] at h
    conv => whnf
    refine .mk ⟨by omega, by omega⟩ ?_
    conv => whnf
    refine .vw ?_
    conv => whnf
    refine .mk ⟨by omega, by omega⟩ ?_
    conv => whnf
    refine .vw ?_
    conv => whnf
    have hs : sub ((List.replicate m x ++ List.replicate (n - m) 0).map encI) 0 (0 + ((m : Int).toNat - 0)) = (List.replicate m x).map encI := by simp [sub]
    have ht : List.take (((List.replicate m x ++ List.replicate (n - m) 0).map encI).length - (m : Int).toNat) ((List.replicate m x).map encI) = (List.replicate (min (n - m) m) x).map encI := by rw [hlm, Int.toNat_natCast, ← List.map_take, List.take_replicate]
    have ho := overR_map (enc := encI) (a := List.replicate m x) (b := List.replicate (min (n - m) m) x) (c := List.replicate (n - m) 0) (o := (m : Int).toNat) (by simp)
    have hrep : List.replicate m x ++ List.replicate (min (n - m) m) x ++ (List.replicate (n - m) (0 : Int)).drop (List.replicate (min (n - m) m) x).length = List.replicate (m + min (n - m) m) x ++ List.replicate (n - (m + min (n - m) m)) 0 := by
     rw [List.replicate_append_replicate, List.length_replicate, List.drop_replicate, show n - m - min (n - m) m = n - (m + min (n - m) m) by omega]
    have hw2 : IntKind.i64.wrap ((m : Int) + ((min ((List.replicate m x).map encI).length (((List.replicate m x ++ List.replicate (n - m) 0).map encI).length - (m : Int).toNat) : Nat) : Int)) = ((m + min (n - m) m : Nat) : Int) := by
     rw [hlm, List.length_map, List.length_replicate, Int.toNat_natCast, wrap_in (by omega) (by omega)]; omega
    rw [hs, ht, ho, hw2, hrep]
    exact meas_next (m + min (n - m) m) (by omega) rfl ⟨by omega, by omega⟩
   ·simp only [decide_eq_false_iff_not] at h
    have hmn : m = n := by omega
    subst hmn
    conv => whnf
    refine .mk ⟨rfl, ?_⟩
    simp
theorem indexS_pc (v : ByteArray) (l : List ByteArray) (hl : l.length ≤ 1000000) : PCp 69 [.c (.lst 1 (l.map encS)), .c (.str v)] [] (.c (.int .i64 (idxP (fun x => decide (v = x)) l))) [] := by
 have hlm : (l.map encS).length = l.length := List.length_map ..
 refine fnP Tryz.func69 Tryz.results69 ?_
 conv => whnf
 refine loop_for (l.length) [] [0, 1, 7, 8] (fun k (_ : Unit) => [(8, .c (.int .i64 (k : Int)))]) (fun k (_ : Unit) => []) (fun k (_ : Unit) => ∀ i (hi : i < l.length), i < k → (decide (v = l[i])) = false) (()) ?_
 conv => whnf
 refine ⟨(by first | rfl | (simp; done) | (simp; rfl)), ?_, ?_, ?_⟩
 ·intro i hi h; omega
 ·intro k _ hk hi
  conv => whnf
  repeat' (first | (refine CondG.mk (fun h => ?_) (fun h => ?_) <;> (try simp only [qA, qB, qC, qD, qE, qF, qG, qH] at h) <;> (first | (exfalso; first | omega | exact h trivial) | (conv => whnf))) | (refine idx_at _ (by with_reducible rfl) (by first | assumption | omega) ?_; conv => whnf) | fail)
  ·exact fini (idxP_hit (p := fun x => decide (v = x)) hk (fun i hi' => hi i (by omega) hi') (by simpa [toList_eq'] using h)).symm
  ·refine count_next () hk (by rw [wrap_succ hk (by omega)]; rfl) ?_
   exact all_succ' (p := fun x => decide (v = x)) hi (by simpa [toList_eq'] using h)
 ·intro _ hi
  conv => whnf
  repeat' (first | (refine CondG.mk (fun h => ?_) (fun h => ?_) <;> (try simp only [decide_eq_true_eq, decide_eq_false_iff_not, Bool.not_eq_true', Bool.not_eq_false', beq_iff_eq, beq_eq_false_iff_ne] at h) <;> (first | (exfalso; first | omega | exact h trivial) | (conv => whnf))) | fail)
  exact fini (idxP_miss (p := fun x => decide (v = x)) (fun i h => hi i h h)).symm
theorem containsS_pc (v : ByteArray) (l : List ByteArray) (hl : l.length ≤ 1000000) : PCp 108 [.c (.lst 1 (l.map encS)), .c (.str v)] [] (.c (.bool (decide (v ∈ l)))) [] := by
 refine fnP Tryz.func108 Tryz.results108 ?_
 conv => whnf
 repeat' (first | (refine  CallX.mk _ _ (by exact indexS_pc v l hl) ?_; conv => whnf) | fail)
 refine finb ?_
 rw [idxP_any, Bool.eq_iff_iff, List.any_eq_true, decide_eq_true_eq]
 exact ⟨fun ⟨x, hx, h⟩ => by simp at h; subst h; exact hx, fun h => ⟨v, h, by simp⟩⟩
theorem eq_drop {α : Type} [DecidableEq α] (a b : List α) (k : Nat) (h : k < a.length) (h2 : k < b.length) : decide (a.drop k = b.drop k) = (decide (a[k] = b[k]) && decide (a.drop (k + 1) = b.drop (k + 1))) := by
 rw [← Bool.decide_and, decide_eq_decide]
 rw [List.drop_eq_getElem_cons h, List.drop_eq_getElem_cons h2, List.cons.injEq]
theorem equalS_pc (l m : List ByteArray) (hl : l.length ≤ 1000000) : PCp 23 [.c (.lst 1 (l.map encS)), .c (.lst 1 (m.map encS))] [] (.c (.bool (decide (l = m)))) [] := by
 have hlm : (l.map encS).length = l.length := List.length_map ..
 have hmm : (m.map encS).length = m.length := List.length_map ..
 refine fnP Tryz.func23 Tryz.results23 ?_
 conv => whnf
 repeat' (first | (refine CondG.mk (fun h => ?_) (fun h => ?_) <;> (try simp only [decide_eq_true_eq, decide_eq_false_iff_not, Bool.not_eq_true', Bool.not_eq_false', beq_iff_eq, beq_eq_false_iff_ne] at h) <;> (first | (exfalso; first | omega | exact h trivial) | (conv => whnf))) | fail)
 ·refine finb ?_
  rw [eq_comm, decide_eq_false_iff_not]; intro e; subst e; simp at h
 have hlen : l.length = m.length := by simp at h; omega
 refine loop_for (l.length) [] [0, 1, 12, 13] (fun k (_ : Unit) => [(13, .c (.int .i64 (k : Int)))]) (fun k (_ : Unit) => []) (fun k (_ : Unit) => decide (l.drop k = m.drop k) = decide (l = m)) (()) ?_
 conv => whnf
 refine ⟨(by first | rfl | (simp; done) | (simp; rfl)), ?_, ?_, ?_⟩
 ·rfl
 ·intro k _ hk hi
  rw [eq_drop l m k hk (by omega)] at hi
  conv => whnf
  repeat' (first | (refine CondG.mk (fun h => ?_) (fun h => ?_) <;> (try simp only [qA, qB, qC, qD, qE, qF, qG, qH] at h) <;> (first | (exfalso; first | omega | exact h trivial) | (conv => whnf))) | (refine idx_at _ (by with_reducible rfl) (by first | assumption | omega) ?_; conv => whnf) | fail)
  ·have h : l[k] ≠ m[k] := fun e => h (by rw [e])
   exact finb (by rw [← hi]; simp [h])
  ·rw [toList_eq'] at h
   refine count_next () hk (by rw [wrap_succ hk (by omega)]; rfl) ?_
   rw [← hi]; simp [h]
 ·intro _ hi
  conv => whnf
  repeat' (first | (refine CondG.mk (fun h => ?_) (fun h => ?_) <;> (try simp only [decide_eq_true_eq, decide_eq_false_iff_not, Bool.not_eq_true', Bool.not_eq_false', beq_iff_eq, beq_eq_false_iff_ne] at h) <;> (first | (exfalso; first | omega | exact h trivial) | (conv => whnf))) | fail)
  exact finb (by rw [← hi, List.drop_of_length_le (Nat.le_refl _), List.drop_of_length_le (by omega)]; rfl)
theorem maxI_pc (l : List Int) (h0 : l ≠ []) (hl : l.length ≤ 1000000) : PCp 150 [.c (.lst 1 (l.map encI))] [] (.c (.int .i64 (maxV l))) [] := by
 have hlm : (l.map encI).length = l.length := List.length_map ..
 cases l with
 | nil => exact absurd rfl h0
 | cons a r =>
  have hle : (a :: r).length = r.length + 1 := rfl
  refine fnP Tryz.func150 Tryz.results150 ?_
  conv => whnf
  repeat' (first | (refine CondG.mk (fun h => ?_) (fun h => ?_) <;> (try simp only [qA, qB, qC, qD, qE, qF, qG, qH] at h) <;> (first | (exfalso; first | omega | exact h trivial) | (conv => whnf))) | fail)
  refine idx_map (l := a :: r) 0 (by simp) rfl ?_
  conv => whnf
  refine loop_for (r.length) [] [0, 3, 4] (fun k (_ : Unit) => [(3, .c (.int .i64 ((r.take k).foldl (fun m x => if m < x then x else m) a))), (4, .c (.int .i64 ((k + 1 : Nat) : Int)))]) (fun k (_ : Unit) => []) (fun k (_ : Unit) => True) (()) ?_
  conv => whnf
  refine ⟨(by first | rfl | (simp; done) | (simp; rfl)), (by trivial), ?_, ?_⟩
  ·intro k _ hk _
   have hd : k + 1 < (a :: r).length := by simp; omega
   conv => whnf
   repeat' (first | (refine CondG.mk (fun h => ?_) (fun h => ?_) <;> (try simp only [qA, qB, qC, qD, qE, qF, qG, qH] at h) <;> (first | (exfalso; first | omega | exact h trivial) | (conv => whnf))) | (refine idx_at _ (by with_reducible rfl) (by first | assumption | omega) ?_; conv => whnf) | fail)
   refine count_next () hk ?_ trivial
   rw [wrap_succ (n := r.length + 1) (by omega) (by omega), List.take_succ_eq_append_getElem hk, List.foldl_append]
   rfl
  ·intro _ _
   conv => whnf
   repeat' (first | (refine CondG.mk (fun h => ?_) (fun h => ?_) <;> (try simp only [qA, qB, qC, qD, qE, qF, qG, qH] at h) <;> (first | (exfalso; first | omega | exact h trivial) | (conv => whnf))) | fail)
   exact fini (by rw [List.take_length]; rfl)
theorem squares_b {l : List Int} (h : ∀ x ∈ l, 0 ≤ x ∧ x ≤ 1000) (hl : l.length ≤ 1000000) {k : Nat} (hk : k < l.length) : IntKind.i64.wrap (sqV (l.take k) + IntKind.i64.wrap (l[k] * l[k])) = sqV (l.take (k + 1)) := by
 have h1 := h l[k] (List.getElem_mem hk)
 have h2 : 0 ≤ l[k] * l[k] := Int.mul_nonneg h1.1 h1.1
 have h3 := Int.mul_le_mul h1.2 h1.2 h1.1 (by omega : (0 : Int) ≤ 1000)
 have h4 := sq_in (l := l.take k) (fun x hx => h x (List.mem_of_mem_take hx))
 have h5 : (l.take k).length ≤ 1000000 := by rw [List.length_take]; omega
 rw [wrap_in (x := l[k] * l[k]) (by omega) (by omega), wrap_in (by omega) (by omega)]
 exact (sum_take (fun x => x * x) l k hk).symm
theorem dSquares_pc (l : List Int) (hb : ∀ x ∈ l, 0 ≤ x ∧ x ≤ 1000) (hl : l.length ≤ 1000000) : PCp 120 [.c (.lst 1 (l.map encI))] [] (.c (.int .i64 (sqV l))) [] := by
 have hlm : (l.map encI).length = l.length := List.length_map ..
 refine fnP Tryz.func120 Tryz.results120 ?_
 conv => whnf
 refine loop_for (l.length) [] [3, 6, 7, 8] (fun k (_ : Unit) => [(3, .c (.int .i64 (sqV (l.take k)))), (8, .c (.int .i64 (k : Int)))]) (fun k (_ : Unit) => []) (fun k (_ : Unit) => True) (()) ?_
 conv => whnf
 refine ⟨(by first | rfl | (simp; done) | (simp; rfl)), (by trivial), ?_, ?_⟩
 ·intro k _ hk _
  conv => whnf
  repeat' (first | (refine CondG.mk (fun h => ?_) (fun h => ?_) <;> (try simp only [qA, qB, qC, qD, qE, qF, qG, qH] at h) <;> (first | (exfalso; first | omega | exact h trivial) | (conv => whnf))) | (refine idx_at _ (by with_reducible rfl) (by first | assumption | omega) ?_; conv => whnf) | fail)
  exact count_next () hk (by rw [wrap_succ hk (by omega), squares_b hb hl hk]; rfl) trivial
 ·intro _ _
  conv => whnf
  repeat' (first | (refine CondG.mk (fun h => ?_) (fun h => ?_) <;> (try simp only [qA, qB, qC, qD, qE, qF, qG, qH] at h) <;> (first | (exfalso; first | omega | exact h trivial) | (conv => whnf))) | fail)
  exact fini (by rw [List.take_length])
theorem rSquares_pc (l : List Int) (hb : ∀ x ∈ l, 0 ≤ x ∧ x ≤ 1000) (hl : l.length ≤ 1000000) : PCp 151 [.c (.lst 1 (l.map encI))] [] (.c (.int .i64 (sqV l))) [] := by
 have hlm : (l.map encI).length = l.length := List.length_map ..
 refine fnP Tryz.func151 Tryz.results151 ?_
 conv => whnf
 refine loop_for (l.length) [] [3, 6, 7, 8] (fun k (_ : Unit) => [(3, .c (.int .i64 (sqV (l.take k)))), (8, .c (.int .i64 (k : Int)))]) (fun k (_ : Unit) => []) (fun k (_ : Unit) => True) (()) ?_
 conv => whnf
 refine ⟨(by first | rfl | (simp; done) | (simp; rfl)), (by trivial), ?_, ?_⟩
 ·intro k _ hk _
  conv => whnf
  repeat' (first | (refine CondG.mk (fun h => ?_) (fun h => ?_) <;> (try simp only [qA, qB, qC, qD, qE, qF, qG, qH] at h) <;> (first | (exfalso; first | omega | exact h trivial) | (conv => whnf))) | (refine idx_at _ (by with_reducible rfl) (by first | assumption | omega) ?_; conv => whnf) | fail)
  exact count_next () hk (by rw [wrap_succ hk (by omega), squares_b hb hl hk]; rfl) trivial
 ·intro _ _
  conv => whnf
  repeat' (first | (refine CondG.mk (fun h => ?_) (fun h => ?_) <;> (try simp only [qA, qB, qC, qD, qE, qF, qG, qH] at h) <;> (first | (exfalso; first | omega | exact h trivial) | (conv => whnf))) | fail)
  exact fini (by rw [List.take_length])
theorem tmod_nat (x y : Nat) : (x : Int).tmod y = ((x % y : Nat) : Int) := by rw [Int.natCast_emod]; exact Int.tmod_eq_emod_of_nonneg (by omega)
theorem tdiv_nat (x y : Nat) : (x : Int).tdiv y = ((x / y : Nat) : Int) := by rw [Int.natCast_ediv]; exact Int.tdiv_eq_ediv_of_nonneg (by omega)
theorem gcd_pc (a b : Nat) : PCp 161 [.c (.int .i64 a), .c (.int .i64 b)] [] (.c (.int .i64 (Nat.gcd a b : Nat))) [] := by
 refine fnP Tryz.func161 Tryz.results161 ?_
 conv => whnf
 refine loop_while2 (fun (x : Nat) (y : Nat) => y) [] [0, 1] (fun (x : Nat) (y : Nat) => [(0, .c (.int .i64 (x : Int))), (1, .c (.int .i64 (y : Int)))]) (fun (x : Nat) (y : Nat) => []) (fun (x : Nat) (y : Nat) => Nat.gcd x y = Nat.gcd a b) (a) (b) ?_
 conv => whnf
 refine ⟨(by first | rfl | (simp; done) | (simp; rfl)), ?_, ?_⟩
 ·rfl
 ·intro x y hg
  conv => whnf
  repeat' (first | (refine CondG.mk (fun h => ?_) (fun h => ?_) <;> (try simp only [qA, qB, qC, qD, qE, qF, qG, qH] at h) <;> (first | (exfalso; first | omega | exact h trivial) | (conv => whnf))) | (refine .mk (by first | omega | (unfold roomOK; simp [cutRows]; done) | (unfold roomOK; simp [cutRows]; omega) | (simp [cutRows]; done) | (simp [cutRows]; omega)) ?_; conv => whnf) | fail)
  ·have hy : 0 < y := by omega
   rw [tmod_nat]
   exact meas_next (y, x % y) (Nat.mod_lt x hy) rfl (by simp only; rw [← hg, Nat.gcd_comm x y, Nat.gcd_rec y x, Nat.gcd_comm])
  ·have hy : y = 0 := by omega
   subst hy
   exact fini (by rw [← hg, Nat.gcd_zero_right])
def encF (q : Nat × Nat) : List V := [.int .i64 (q.1 : Int), .int .i64 (q.2 : Int)]
def fracV (n d : Nat) : Nat × Nat := (n / Nat.gcd n d, d / Nat.gcd n d)
theorem fraction_pc (n d : Nat) (hn : n ≤ 9000000000000000000) (hd0 : 0 < d) (hd : d ≤ 9000000000000000000) : PCp 119 [.c (.int .i64 n), .c (.int .i64 d)] [] (.agg (encF (fracV n d))) [] := by
 have hmax : (if (n : Int) < IntKind.i64.wrap (0 - (n : Int)) then IntKind.i64.wrap (0 - (n : Int)) else (n : Int)) = n := by
  rw [wrap_in (x := 0 - (n : Int)) (by omega) (by omega)]; split <;> omega
 have hg : 0 < Nat.gcd n d := Nat.gcd_pos_of_pos_right _ hd0
 have hq : ∀ x : Nat, x ≤ 9000000000000000000 → IntKind.i64.wrap ((x : Int).tdiv (Nat.gcd n d : Nat)) = ((x / Nat.gcd n d : Nat) : Int) := by
  intro x hx
  have := Nat.div_le_self x (Nat.gcd n d)
  have h0 := Int.natCast_nonneg (x / Nat.gcd n d)
  rw [tdiv_nat, wrap_in (by omega) (by omega)]
 refine fnP Tryz.func119 Tryz.results119 ?_
 conv => whnf
 rw [hmax]
 repeat' (first | (refine  CallX.mk _ _ (by exact gcd_pc n d) ?_; conv => whnf) | (refine .mk (by first | omega | (unfold roomOK; simp [cutRows]; done) | (unfold roomOK; simp [cutRows]; omega) | (simp [cutRows]; done) | (simp [cutRows]; omega)) ?_; conv => whnf) | fail)
 rw [hq n hn, hq d hd]
 exact .mk ⟨rfl, rfl⟩
theorem k0 {k : Nat} : decide ((0 : Int) < (k : Int)) = !decide (k = 0) := by
 rw [Bool.eq_iff_iff]; simp; omega
theorem seq_hit {α : Type} {e : Bool → ByteArray → α → Int} {key : α → ByteArray} {l : List α} {k : Nat} {f : Bool} {b : ByteArray} {r v : Int} (hk : k < l.length) (hi : seqErr e key f b (l.drop k) = r) (hv : e f b l[k] = v) (h0 : v ≠ 0) : v = r := by
 rw [seqErr_drop hk, hv, if_neg h0] at hi; exact hi
theorem seq_next {α : Type} {e : Bool → ByteArray → α → Int} {key : α → ByteArray} {l : List α} {k : Nat} {f : Bool} {b : ByteArray} {r : Int} (hk : k < l.length) (hi : seqErr e key f b (l.drop k) = r) (hv : e f b l[k] = 0) : seqErr e key false (key l[k]) (l.drop (k + 1)) = r := by
 rw [seqErr_drop hk, hv, if_pos rfl] at hi; exact hi
theorem seq_next' {α : Type} {e : Bool → ByteArray → α → Int} {key : α → ByteArray} {l : List α} {k : Nat} {f : Bool} {b : ByteArray} {r : Int} (hk : k < l.length) (hi : seqErr e key f b (l.drop k) = r) (hv : e f b l[k] = 0) : seqErr e key (decide (k + 1 = 0)) (befK key l (k + 1)) (l.drop (k + 1)) = r := by
 rw [befK_succ hk]; exact seq_next hk hi hv
theorem seq_end {α : Type} {e : Bool → ByteArray → α → Int} {key : α → ByteArray} {l : List α} {f : Bool} {b : ByteArray} {r : Int} (hi : seqErr e key f b (l.drop l.length) = r) : r = 0 := by
 rw [List.drop_of_length_le (Nat.le_refl _)] at hi; exact hi.symm
theorem checkDucts_pc (d : List Du) : PCp 79 [.c (.lst 5 (d.map encDu))] [] (.c (.int .i64 (duFault d))) [] := by
 have hlm : (d.map encDu).length = d.length := List.length_map ..
 refine fnP Tryz.func79 Tryz.results79 ?_
 conv => whnf
 repeat' (first | (refine CondG.mk (fun h => ?_) (fun h => ?_) <;> (try simp only [qA, qB, qC, qD, qE, qF, qG, qH] at h) <;> (first | (exfalso; first | omega | exact h trivial) | (conv => whnf))) | fail)
 ·exact fini (by rw [duFault, if_pos (by omega)])
 have hF : duFault d = seqErr duErr Du.key true ⟨#[]⟩ d := by rw [duFault, if_neg (by omega)]
 refine loop_for (d.length) [] [0, 8, 9, 10] (fun k (_ : Unit) => [(10, .c (.int .i64 (k : Int)))]) (fun k (_ : Unit) => []) (fun k (_ : Unit) => seqErr duErr Du.key (decide (k = 0)) (befK Du.key d k) (d.drop k) = duFault d) (()) ?_
 conv => whnf
 refine ⟨(by first | rfl | (simp; done) | (simp; rfl)), ?_, ?_, ?_⟩
 ·exact hF.symm
 ·intro k _ hk hi
  conv => whnf
  repeat' (first | (refine .mk (fun h => ?_) (fun h => ?_) <;> (try simp only [qA, qB, qC, qD, qE, qF, qG, qH] at h) <;> (first | (exfalso; first | omega | exact h trivial) | (conv => whnf))) | (refine  CallX.mk _ _ (by first | exact bKey_pc _ | exact bOut_pc _ _ _) ?_; conv => whnf) | (refine idx_at _ (by with_reducible rfl) (by first | assumption | omega) ?_; conv => whnf) | ((refine idx_map (k - 1) (by omega) (by rw [wrap_in (by omega) (by omega)]; omega) ?_); conv => whnf) | fail)
  all_goals try simp only [toList_eq'] at *
  all_goals have hb := befK_pos (key := Du.key) (l := d) (Nat.le_of_lt hk)
  all_goals first
   | (refine fini (seq_hit hk hi ?_ (by decide)); clear hi hF; unfold duErr; (try rw [hb (by omega)]); (repeat' split) <;> first | rfl | (exfalso; first | omega | (simp_all [leB, toList_eq']; done) | (simp_all [leB, toList_eq']; omega)))
   | (refine count_next () hk (by rw [wrap_succ hk (by omega)]; rfl) (seq_next' hk hi ?_); clear hi hF; unfold duErr; (try rw [hb (by omega)]); (repeat' split) <;> first | rfl | (exfalso; first | omega | (simp_all [leB, toList_eq']; done) | (simp_all [leB, toList_eq']; omega)))
 ·intro _ hi
  conv => whnf
  repeat' (first | (refine CondG.mk (fun h => ?_) (fun h => ?_) <;> (try simp only [qA, qB, qC, qD, qE, qF, qG, qH] at h) <;> (first | (exfalso; first | omega | exact h trivial) | (conv => whnf))) | fail)
  exact fini (seq_end hi).symm
theorem rDuctsFault_pc (d : List Du) : PCp 52 [.c (.lst 5 (d.map encDu))] [] (.c (.int .i64 (duFault d))) [] := by
 have hlm : (d.map encDu).length = d.length := List.length_map ..
 refine fnP Tryz.func52 Tryz.results52 ?_
 conv => whnf
 repeat' (first | (refine CondG.mk (fun h => ?_) (fun h => ?_) <;> (try simp only [qA, qB, qC, qD, qE, qF, qG, qH] at h) <;> (first | (exfalso; first | omega | exact h trivial) | (conv => whnf))) | fail)
 ·exact fini (by rw [duFault, if_pos (by omega)])
 have hF : duFault d = seqErr duErr Du.key false ⟨#[]⟩ d := by rw [duFault, if_neg (by omega), seqErr_first duErr_first]
 refine loop_for (d.length) [] [3, 9, 10, 11] (fun k (_ : Unit) => [(3, .c (.str (befK Du.key d k))), (11, .c (.int .i64 (k : Int)))]) (fun k (_ : Unit) => []) (fun k (_ : Unit) => seqErr duErr Du.key false (befK Du.key d k) (d.drop k) = duFault d) (()) ?_
 conv => whnf
 refine ⟨(by first | rfl | (simp; done) | (simp; rfl)), ?_, ?_, ?_⟩
 ·exact hF.symm
 ·intro k _ hk hi
  conv => whnf
  repeat' (first | (refine .mk (fun h => ?_) (fun h => ?_) <;> (try simp only [qA, qB, qC, qD, qE, qF, qG, qH] at h) <;> (first | (exfalso; first | omega | exact h trivial) | (conv => whnf))) | (refine  CallX.mk _ _ (by first | exact rKey_pc _ | exact rIn_pc _ _ _) ?_; conv => whnf) | (refine idx_at _ (by with_reducible rfl) (by first | assumption | omega) ?_; conv => whnf) | fail)
  all_goals try simp only [toList_eq'] at *
  all_goals first
   | (refine fini (seq_hit hk hi ?_ (by decide)); clear hi hF; unfold duErr; (repeat' split) <;> first | rfl | (exfalso; first | omega | (simp_all [leB, toList_eq']; done) | (simp_all [leB, toList_eq']; omega)))
   | (refine count_next () hk (by rw [wrap_succ hk (by omega), befK_succ hk]; rfl) (by rw [befK_succ hk]; refine seq_next hk hi ?_; clear hi hF; unfold duErr; (repeat' split) <;> first | rfl | (exfalso; first | omega | (simp_all [leB, toList_eq']; done) | (simp_all [leB, toList_eq']; omega))))
 ·intro _ hi
  conv => whnf
  repeat' (first | (refine CondG.mk (fun h => ?_) (fun h => ?_) <;> (try simp only [qA, qB, qC, qD, qE, qF, qG, qH] at h) <;> (first | (exfalso; first | omega | exact h trivial) | (conv => whnf))) | fail)
  exact fini (seq_end hi).symm
theorem find1_pc (x : Du) (k : ByteArray) : PCp 93 [.agg (encDu x), .c (.str k)] [] (.c (.int .i64 (cmpS x.key k))) [] := by
 refine fnP Tryz.func93 Tryz.results93 ?_
 conv => whnf
 repeat' (first | (refine  CallX.mk _ _ (by exact sCompare_pc _ _) ?_; conv => whnf) | fail)
 exact fini rfl
theorem find_pc (d : List Du) (hd : DuOk d) (k : ByteArray) : PCp 44 [.c (.lst 5 (d.map encDu)), .c (.str k)] [] (.tup [.agg (encDu (duG d k)), .c (.bool (hasD d k))]) [] := by
 have hlm : (d.map encDu).length = d.length := List.length_map ..
 have hc : ∀ x : Du, (cmpS x.key k < 0 ↔ ltB x.key k = true) ∧ (cmpS x.key k = 0 ↔ x.key = k) := fun x => ⟨cmp_lt, cmp_zero⟩
 have hf := find_rise (c := fun x : Du => cmpS x.key k) hc hd.rise
 have hl := hd.len
 refine fnP Tryz.func44 Tryz.results44 ?_
 conv => whnf
 repeat' (first | (refine CondG.mk (fun h => ?_) (fun h => ?_) <;> (try simp only [qA, qB, qC, qD, qE, qF, qG, qH] at h) <;> (first | (exfalso; first | omega | exact h trivial) | (conv => whnf))) | (refine  CallX.mk _ _ (by exact bsDu_pc 93 (fun x => cmpS x.key k) (.c (.str k)) d (by omega) (rise_mono (fun x => cmp_lt) hd.rise) ⟨_, rfl⟩ (fun x _ => find1_pc x k)) ?_; conv => whnf) | fail)
 ·have hn : duAt d k = none := by unfold duAt; rw [hf, h]; rfl
  exact .mk ⟨by unfold duG hasD; rw [hn]; rfl, rfl⟩
 ·have hlt : cntL (fun x : Du => cmpS x.key k) d < d.length := by
   rcases Nat.lt_or_ge (cntL (fun x : Du => cmpS x.key k) d) d.length with h1 | h1
   ·exact h1
   ·unfold hitL at h; rw [List.getElem?_eq_none h1] at h; cases h
  have hn : duAt d k = some (d[cntL (fun x : Du => cmpS x.key k) d]) := by unfold duAt; rw [hf, if_pos h, List.getElem?_eq_getElem hlt]
  refine idx_map _ hlt rfl ?_
  conv => whnf
  exact .mk ⟨by unfold duG hasD; rw [hn]; rfl, rfl⟩
theorem ductAt1_pc (x : Du) (k : ByteArray) : PCp 107 [.agg (encDu x), .c (.ptr 0 0)] [.box [.str k]] (.c (.bool (decide (x.key = k)))) [.box [.str k]] := by
 refine fnP Tryz.func107 Tryz.results107 ?_
 conv => whnf
 skip
 exact .mk ⟨by rw [beqL]; rfl, rfl⟩
theorem ductAt_pc (d : List Du) (hl : d.length ≤ 1000000) (k : ByteArray) : PCp 55 [.c (.lst 5 (d.map encDu)), .c (.str k)] [] (.tup [.agg (encDu (duG d k)), .c (.bool (hasD d k))]) [] := by
 have hlm : (d.map encDu).length = d.length := List.length_map ..
 have hf : duAt d k = d[d.findIdx fun x => decide (x.key = k)]? := find_idx _ d
 have hi : 0 ≤ idxP (fun x : Du => decide (x.key = k)) d ↔ (d.any fun x => decide (x.key = k)) = true := by
  rw [← idxP_any, decide_eq_true_eq]
 refine fnP Tryz.func55 Tryz.results55 ?_
 conv => whnf
 repeat' (first | (refine CondG.mk (fun h => ?_) (fun h => ?_) <;> (try simp only [qA, qB, qC, qD, qE, qF, qG, qH] at h) <;> (first | (exfalso; first | omega | exact h trivial) | (conv => whnf))) | (refine  CallX.mk _ _ (by exact ixDuK_pc k 107 (fun x => decide (x.key = k)) d hl (fun x _ => ductAt1_pc x k)) ?_; conv => whnf) | fail)
 ·have hn : duAt d k = none := by
   cases h1 : duAt d k with
   | none => rfl
   | some x =>
    have h2 := duAt_some h1
    have h3 := hi.2 (List.any_eq_true.2 ⟨x, h2.1, by simpa using h2.2⟩)
    omega
  exact .mk ⟨by unfold duG hasD; rw [hn]; rfl, rfl⟩
 ·have h1 := hi.1 (by omega)
  have h2 : idxP (fun x : Du => decide (x.key = k)) d = (d.findIdx fun x => decide (x.key = k) : Nat) := by rw [idxP, if_pos h1]
  have hlt : (d.findIdx fun x => decide (x.key = k)) < d.length := by
   rw [List.findIdx_lt_length]; rw [List.any_eq_true] at h1; obtain ⟨x, hx, h3⟩ := h1; exact ⟨x, hx, h3⟩
  rw [List.getElem?_eq_getElem hlt] at hf
  refine idx_map _ hlt h2 ?_
  conv => whnf
  exact .mk ⟨by unfold duG hasD; rw [hf]; rfl, rfl⟩
theorem cableFault_pc (d : List Du) (hd : DuOk d) (x : Ly) (hx : x.ducts.length ≤ 1000000) : PCp 80 [.c (.lst 5 (d.map encDu)), .agg (encLy x)] [] (.c (.int .i64 (cabErr d x))) [] := by
 have hlm : (x.ducts.map encS).length = x.ducts.length := List.length_map ..
 refine fnP Tryz.func80 Tryz.results80 ?_
 conv => whnf
 repeat' (first | (refine CondG.mk (fun h => ?_) (fun h => ?_) <;> (try simp only [qA, qB, qC, qD, qE, qF, qG, qH] at h) <;> (first | (exfalso; first | omega | exact h trivial) | (conv => whnf))) | (refine  CallX.mk _ _ (by exact bOut_pc _ _ _) ?_; conv => whnf) | fail)
 ·exact fini (by rw [cabErr, if_pos h])
 ·exact fini (by rw [cabErr, if_neg (by assumption), if_pos (by omega)])
 ·exact fini (by rw [cabErr, if_neg (by assumption), if_neg (by omega), if_pos (by omega)])
 have hF : cabErr d x = seqErr (keyErr (hasD d)) id true ⟨#[]⟩ x.ducts := by rw [cabErr, if_neg (by assumption), if_neg (by omega), if_neg (by omega)]
 refine loop_for (x.ducts.length) [] [0, 3, 24, 25, 26] (fun k (_ : Unit) => [(26, .c (.int .i64 (k : Int)))]) (fun k (_ : Unit) => []) (fun k (_ : Unit) => seqErr (keyErr (hasD d)) id (decide (k = 0)) (befK id x.ducts k) (x.ducts.drop k) = cabErr d x) (()) ?_
 conv => whnf
 refine ⟨(by first | rfl | (simp; done) | (simp; rfl)), ?_, ?_, ?_⟩
 ·exact hF.symm
 ·intro k _ hk hi
  conv => whnf
  repeat' (first | (refine .mk (fun h => ?_) (fun h => ?_) <;> (try simp only [qA, qB, qC, qD, qE, qF, qG, qH] at h) <;> (first | (exfalso; first | omega | exact h trivial) | (conv => whnf))) | (refine  CallX.mk _ _ (by exact find_pc d hd _) ?_; conv => whnf) | (refine idx_at _ (by with_reducible rfl) (by first | assumption | omega) ?_; conv => whnf) | ((refine idx_map (k - 1) (by omega) (by rw [wrap_in (by omega) (by omega)]; omega) ?_); conv => whnf) | fail)
  all_goals try simp only [toList_eq'] at *
  all_goals have hb := befK_pos (key := id) (l := x.ducts) (Nat.le_of_lt hk)
  all_goals first
   | (refine fini (seq_hit hk hi ?_ (by decide)); clear hi hF; unfold keyErr; (try rw [hb (by omega)]); (repeat' split) <;> first | rfl | (exfalso; first | omega | (simp_all [leB, toList_eq']; done) | (simp_all [leB, toList_eq']; omega)))
   | (refine count_next () hk (by rw [wrap_succ hk (by omega)]; rfl) (seq_next' hk hi ?_); clear hi hF; unfold keyErr; (try rw [hb (by omega)]); (repeat' split) <;> first | rfl | (exfalso; first | omega | (simp_all [leB, toList_eq']; done) | (simp_all [leB, toList_eq']; omega)))
 ·intro _ hi
  conv => whnf
  repeat' (first | (refine CondG.mk (fun h => ?_) (fun h => ?_) <;> (try simp only [qA, qB, qC, qD, qE, qF, qG, qH] at h) <;> (first | (exfalso; first | omega | exact h trivial) | (conv => whnf))) | fail)
  exact fini (seq_end hi).symm
structure CntOk (m : SM ByteArray Int) (ks : List ByteArray) : Prop where
 ok : m.ok
 cnt : ∀ k, (m.get k).getD 0 = (ks.count k : Nat)
theorem CntOk.nil : CntOk SM.nil [] := ⟨SM.ok_nil, fun k => by rw [SM.get_nil]; rfl⟩
theorem CntOk.push {m : SM ByteArray Int} {ks : List ByteArray} (h : CntOk m ks) (k : ByteArray) : CntOk (m.put k ((ks.count k + 1 : Nat) : Int)) (ks ++ [k]) := by
 refine ⟨h.ok.put _ _, fun x => ?_⟩
 rw [SM.get_put, List.count_append]
 by_cases e : k = x
 ·subst e; simp
 ·have : [k].count x = 0 := by rw [List.count_eq_zero]; simpa using fun h => e h.symm
  rw [if_neg e, h.cnt, this]; rfl
theorem checkLying_pc (d : List Du) (l : List Ly) (hx : ∀ x ∈ l, x.ducts.length ≤ 1000000) : PCp 33 [.c (.lst 5 (d.map encDu)), .c (.lst 3 (l.map encLy))] [] (.c (.int .i64 (lyFault d l))) [] := by
 have hlm : (l.map encLy).length = l.length := List.length_map ..
 refine fnP Tryz.func33 Tryz.results33 ?_
 conv => whnf
 repeat' (first | (refine CondG.mk (fun h => ?_) (fun h => ?_) <;> (try simp only [qA, qB, qC, qD, qE, qF, qG, qH] at h) <;> (first | (exfalso; first | omega | exact h trivial) | (conv => whnf))) | (refine  CallX.mk _ _ (by exact checkDucts_pc d) ?_; conv => whnf) | fail)
 ·exact fini (by rw [lyFault, if_pos h])
 ·exact fini (by rw [lyFault, if_neg (by simp_all), if_pos (by omega)])
 rename_i hd0
 have hd0 : duFault d = 0 := by simpa using hd0
 have hd := duFault_ok hd0
 have hF : lyFault d l = if lysErr d l ≠ 0 then lysErr d l else if fullL d l then 12 else 0 := by rw [lyFault, if_neg (by simp [hd0]), if_neg (by omega)]
 refine loop_for (l.length) [] [0, 1, 6, 7, 22, 23, 24] (fun k (m : SM ByteArray Int) => [(7, .c (.bool (manyB ((l.take k).flatMap Ly.ducts)))), (24, .c (.int .i64 (k : Int)))]) (fun k (m : SM ByteArray Int) => [(0, smO ekS evI m)]) (fun k (m : SM ByteArray Int) => CntOk m ((l.take k).flatMap Ly.ducts) ∧ ((l.take k).flatMap Ly.ducts).length ≤ 300 * k ∧ seqErr (lyErr d) Ly.cable (decide (k = 0)) (befK Ly.cable l k) (l.drop k) = lysErr d l) (SM.nil) ?_
 conv => whnf
 refine ⟨(by first | rfl | (simp; done) | (simp; rfl)), ?_, ?_, ?_⟩
 ·exact ⟨CntOk.nil, by simp, rfl⟩
 ·intro k m hk ⟨hm, hn, hi⟩
  have hb := befK_pos (key := Ly.cable) (l := l) (Nat.le_of_lt hk)
  conv => whnf
  repeat' (first | (refine .mk (fun h => ?_) (fun h => ?_) <;> (try simp only [qA, qB, qC, qD, qE, qF, qG, qH] at h) <;> (first | (exfalso; first | omega | exact h trivial) | (conv => whnf))) | (refine  CallX.mk _ _ (by first | exact bKey_pc _ | exact cableFault_pc d hd l[k] (hx _ (List.getElem_mem hk))) ?_; conv => whnf) | (refine idx_at _ (by with_reducible rfl) (by first | assumption | omega) ?_; conv => whnf) | ((refine idx_map (k - 1) (by omega) (by rw [wrap_in (by omega) (by omega)]; omega) ?_); conv => whnf) | fail)
  all_goals try simp only [toList_eq'] at *
  all_goals first
   | (have he : lyErr d (decide (k = 0)) (befK Ly.cable l k) l[k] = 5 := by (unfold lyErr; clear hi hF; (try rw [hb (by omega)]); (repeat' split) <;> first | rfl | (exfalso; first | omega | (simp_all [leB, toList_eq']; done) | (simp_all [leB, toList_eq']; omega)))
      have h9 := seq_hit hk hi he (by decide)
      exact fini (by rw [hF, if_pos (by omega)]; exact h9))
   | (have he : lyErr d (decide (k = 0)) (befK Ly.cable l k) l[k] = 7 := by (unfold lyErr; clear hi hF; (try rw [hb (by omega)]); (repeat' split) <;> first | rfl | (exfalso; first | omega | (simp_all [leB, toList_eq']; done) | (simp_all [leB, toList_eq']; omega)))
      have h9 := seq_hit hk hi he (by decide)
      exact fini (by rw [hF, if_pos (by omega)]; exact h9))
   | (have he : lyErr d (decide (k = 0)) (befK Ly.cable l k) l[k] = cabErr d l[k] := by (unfold lyErr; clear hi hF; (try rw [hb (by omega)]); (repeat' split) <;> first | rfl | (exfalso; first | omega | (simp_all [leB, toList_eq']; done) | (simp_all [leB, toList_eq']; omega)))
      have h9 := seq_hit hk hi he (by assumption)
      exact fini (by rw [hF, if_pos (by omega)]; exact h9))
   | skip
  all_goals
   have he : lyErr d (decide (k = 0)) (befK Ly.cable l k) l[k] = 0 := by (unfold lyErr; clear hi hF; (try rw [hb (by omega)]); (repeat' split) <;> first | rfl | assumption | (exfalso; first | omega | (simp_all [leB, toList_eq']; done) | (simp_all [leB, toList_eq']; omega)))
   have hX := (lyErr_ok he).1
   have hxl := hX.len
   have hxm : (l[k].ducts.map encS).length = l[k].ducts.length := List.length_map ..
   have hnx := seq_next' hk hi he
   have hft : (l.take (k + 1)).flatMap Ly.ducts = (l.take k).flatMap Ly.ducts ++ l[k].ducts := by rw [List.take_succ_eq_append_getElem hk, List.flatMap_append, List.flatMap_cons, List.flatMap_nil, List.append_nil]
   generalize (l.take k).flatMap Ly.ducts = A at *
   refine loop_for (l[k].ducts.length) [] [0, 1, 6, 7, 22, 23, 24, 55, 56, 57] (fun j (m' : SM ByteArray Int) => [(7, .c (.bool (manyB (A ++ l[k].ducts.take j)))), (57, .c (.int .i64 (j : Int)))]) (fun j (m' : SM ByteArray Int) => [(0, smO ekS evI m')]) (fun j (m' : SM ByteArray Int) => CntOk m' (A ++ l[k].ducts.take j)) (m) ?_
   conv => whnf
   refine ⟨?_, ?_, ?_, ?_⟩
   ·rw [List.take_zero, List.append_nil]; rfl
   ·simpa using hm
   ·intro j m' hj hm'
    have htj : A ++ l[k].ducts.take (j + 1) = A ++ l[k].ducts.take j ++ [l[k].ducts[j]] := by rw [List.take_succ_eq_append_getElem hj, List.append_assoc]
    have hlen : (A ++ l[k].ducts.take j).count l[k].ducts[j] ≤ 300 * k + 300 := Nat.le_trans List.count_le_length (by rw [List.length_append, List.length_take]; omega)
    have hmp := many_push (A ++ l[k].ducts.take j) l[k].ducts[j]
    rw [← htj] at hmp
    conv => whnf
    repeat' (first | (refine .mk (fun h => ?_) (fun h => ?_) <;> (try simp only [qA, qB, qC, qD, qE, qF, qG, qH] at h) <;> (first | (exfalso; first | omega | exact h trivial) | (conv => whnf))) | (refine idx_at _ (by with_reducible rfl) (by first | assumption | omega) ?_; conv => whnf) | ((with_reducible refine sm_look (ek := ekS) (ev := evI) keyStr _ _ ((0 : Int)) ?_ ?_); exact rfl; conv => whnf) | ((with_reducible refine sm_upd (ek := ekS) (ev := evI) keyStr _ _ _ ?_); conv => whnf) | fail)
    all_goals
     generalize hc : (A ++ l[k].ducts.take j).count l[k].ducts[j] = c at *
     have hcm : (m'.get l[k].ducts[j]).getD 0 = (c : Nat) := by rw [hm'.cnt, hc]
     have hw : IntKind.i64.wrap ((m'.get l[k].ducts[j]).getD 0 + 1) = ((c + 1 : Nat) : Int) := by rw [hcm, wrap_in (by omega) (by omega)]; rfl
     have hg : ((m'.put l[k].ducts[j] ((c + 1 : Nat) : Int)).get l[k].ducts[j]).getD 0 = ((c + 1 : Nat) : Int) := by rw [SM.get_put, if_pos rfl]; rfl
     have hdc : decide ((20 : Int) < ((c + 1 : Nat) : Int)) = decide (20 < c + 1) := by rw [decide_eq_decide]; omega
     have hok := hm'.push l[k].ducts[j]
     rw [hc, ← htj] at hok
     rw [hw]
    ·exact count_next _ hj (by rw [wrap_succ hj (by omega), hmp, h]; rfl) hok
    ·rw [hg, hdc]
     exact count_next _ hj (by rw [wrap_succ hj (by omega), hmp, h]; rfl) hok
   ·intro m' hm'
    rw [List.take_length] at *
    conv => whnf
    repeat' (first | (refine CondG.mk (fun h => ?_) (fun h => ?_) <;> (try simp only [qA, qB, qC, qD, qE, qF, qG, qH] at h) <;> (first | (exfalso; first | omega | exact h trivial) | (conv => whnf))) | fail)
    exact count_next m' hk (by rw [wrap_succ hk (by omega), hft]; rfl) ⟨by rw [hft]; exact hm', by rw [hft, List.length_append]; omega, hnx⟩
 ·intro m ⟨hm, hn, hi⟩
  rw [List.take_length] at *
  have h0 := seq_end hi
  have hall := many_full (lysErr_ok h0).2
  conv => whnf
  repeat' (first | (refine CondG.mk (fun h => ?_) (fun h => ?_) <;> (try simp only [qA, qB, qC, qD, qE, qF, qG, qH] at h) <;> (first | (exfalso; first | omega | exact h trivial) | (conv => whnf))) | fail)
  ·exact fini (by rw [hF, if_neg (by simp [h0]), if_pos (by rw [← hall]; exact h)])
  ·exact fini (by rw [hF, if_neg (by simp [h0]), if_neg (by rw [← hall, h]; decide)])
end Go.Proofs.YtkefgcleaalnnaaGreat
