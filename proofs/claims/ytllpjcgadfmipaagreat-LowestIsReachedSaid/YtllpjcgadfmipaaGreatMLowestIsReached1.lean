/- Parts of the proof, in order. -/
import Derived.Test.YtllpjcgadfmipaaGreatTab
import Derived.Test.YtllpjcgadfmipaaGreatAbsY
import Derived.Lib.Hide
import Derived.Lib.Strings
import Derived.Lib.Slices
import Derived.Lib.Walk
import Derived.Lib.Bytealg
import Derived.Test.YtllpjcgadfmipaaGreatWrap
import Derived.Test.YtllpjcgadfmipaaGreatAbsZ
import Derived.Test.YtllpjcgadfmipaaGreatEk
import Derived.Test.YtllpjcgadfmipaaGreatSort
import Derived.Test.YtllpjcgadfmipaaGreatLay
import Derived.Test.YtllpjcgadfmipaaGreatLoop
import Derived.Test.YtllpjcgadfmipaaGreatGrow
import Derived.Test.YtllpjcgadfmipaaGreatCst

/- Keys, numbers, strings: small functions, by the abstract walk. -/
namespace Go.Proofs.YtllpjcgadfmipaaGreat
set_option linter.unusedVariables false
set_option linter.unusedSimpArgs false
open Abs

abbrev PCp := PCs Tryz.prog
abbrev PCq := PCx Tryz.prog
def mts : List Nat := [76, 130, 173, 121, 168, 217, 123, 218, 236, 245, 174, 175, 177, 178, 179, 180, 220, 119, 167, 209, 52, 51, 68, 110]

theorem finb {m : Nat} {a b : Bool} {os : List Ob} (h : a = b) : FinR m (.c (.bool b)) os (.c (.bool a)) os := .mk ⟨by rw [h], rfl⟩
theorem fini {m : Nat} {k : IntKind} {a b : Int} {os : List Ob} (h : a = b) : FinR m (.c (.int k b)) os (.c (.int k a)) os := .mk ⟨by rw [h], rfl⟩

set_option maxRecDepth 100000 in
set_option maxHeartbeats 4000000 in
theorem bOut_pc (n lo hi : Int) : PCp 113 [.c (.int .i64 n), .c (.int .i64 lo), .c (.int .i64 hi)] [] (.c (.bool (decide (n < lo ∨ hi < n)))) [] := by
  refine fn_sound (mt := mts) tab_fits tab_mixed Tryz.func113 (by rfl) (by kernel_rfl) (by kernel_rfl) Tryz.results113 (Nat.le_of_ble_eq_true (by kernel_rfl)) ?_
  conv => whnf
  repeat' (first | (refine Split.mk (fun h => ?_) (fun h => ?_) <;> (try simp only [decide_eq_true_eq, decide_eq_false_iff_not, Bool.not_eq_true', Bool.not_eq_false', beq_iff_eq, beq_eq_false_iff_ne] at h) <;> (first | (exfalso; first | omega | exact h trivial) | (conv => whnf))) | (refine CondG.mk (fun h => ?_) (fun h => ?_) <;> (try simp only [decide_eq_true_eq, decide_eq_false_iff_not, Bool.not_eq_true', Bool.not_eq_false', beq_iff_eq, beq_eq_false_iff_ne] at h) <;> (first | (exfalso; first | omega | exact h trivial) | (conv => whnf))) | (refine Ask.mk (by first | omega | (unfold roomOK; simp [cutRows]; done) | (unfold roomOK; simp [cutRows]; omega)) ?_; conv => whnf) | (refine AppG.mk (by first | omega | (unfold roomOK; simp [cutRows]; done) | (unfold roomOK; simp [cutRows]; omega)) ?_; conv => whnf) | (refine SliceG.fr ?_; conv => whnf) | fail)
  all_goals exact finb (by simp_all <;> omega)
set_option maxRecDepth 100000 in
set_option maxHeartbeats 4000000 in
theorem rIn_pc (n lo hi : Int) : PCp 92 [.c (.int .i64 n), .c (.int .i64 lo), .c (.int .i64 hi)] [] (.c (.bool (decide (lo ≤ n ∧ n ≤ hi)))) [] := by
  refine fn_sound (mt := mts) tab_fits tab_mixed Tryz.func92 (by rfl) (by kernel_rfl) (by kernel_rfl) Tryz.results92 (Nat.le_of_ble_eq_true (by kernel_rfl)) ?_
  conv => whnf
  repeat' (first | (refine Split.mk (fun h => ?_) (fun h => ?_) <;> (try simp only [decide_eq_true_eq, decide_eq_false_iff_not, Bool.not_eq_true', Bool.not_eq_false', beq_iff_eq, beq_eq_false_iff_ne] at h) <;> (first | (exfalso; first | omega | exact h trivial) | (conv => whnf))) | (refine CondG.mk (fun h => ?_) (fun h => ?_) <;> (try simp only [decide_eq_true_eq, decide_eq_false_iff_not, Bool.not_eq_true', Bool.not_eq_false', beq_iff_eq, beq_eq_false_iff_ne] at h) <;> (first | (exfalso; first | omega | exact h trivial) | (conv => whnf))) | (refine Ask.mk (by first | omega | (unfold roomOK; simp [cutRows]; done) | (unfold roomOK; simp [cutRows]; omega)) ?_; conv => whnf) | (refine AppG.mk (by first | omega | (unfold roomOK; simp [cutRows]; done) | (unfold roomOK; simp [cutRows]; omega)) ?_; conv => whnf) | (refine SliceG.fr ?_; conv => whnf) | fail)
  all_goals exact finb (by simp_all <;> omega)
def isKeyC (c : Int) : Bool := decide (97 ≤ c ∧ c ≤ 122) || (decide (48 ≤ c ∧ c ≤ 57) || (c == 45 || c == 95))
def keyB (s : ByteArray) : Bool := decide (0 < s.size ∧ s.size ≤ 40 ∧ 97 ≤ byteAt s 0 ∧ byteAt s 0 ≤ 122 ∧ ∀ i, i < s.size → isKeyC (byteAt s i) = true)
theorem all_succ {p : Nat → Prop} {k : Nat} (h : ∀ i, i < k → p i) (hk : p k) : ∀ i, i < k + 1 → p i := fun i hi => by
  rcases Nat.lt_or_ge i k with h1 | h1
  · exact h i h1
  · have : i = k := by omega
    subst this; exact hk
theorem size_nil (s : ByteArray) : (s.toList == (⟨#[]⟩ : ByteArray).toList) = decide (s.size = 0) := by
  rw [ByteArray.toList_eq, ByteArray.toList_eq]
  obtain ⟨⟨x⟩⟩ := s
  cases x with
  | nil => rfl
  | cons a r => rfl
set_option maxRecDepth 100000 in
set_option maxHeartbeats 4000000 in
theorem bKey_pc (s : ByteArray) : PCp 58 [.c (.str s)] [] (.c (.bool (keyB s))) [] := by
  refine fn_sound (mt := mts) tab_fits tab_mixed Tryz.func58 (by rfl) (by kernel_rfl) (by kernel_rfl) Tryz.results58 (Nat.le_of_ble_eq_true (by kernel_rfl)) ?_
  conv => whnf
  rw [size_nil]
  repeat' (first | (refine Split.mk (fun h => ?_) (fun h => ?_) <;> (try simp only [decide_eq_true_eq, decide_eq_false_iff_not, Bool.not_eq_true', Bool.not_eq_false', beq_iff_eq, beq_eq_false_iff_ne] at h) <;> (first | (exfalso; first | omega | exact h trivial) | (conv => whnf))) | (refine CondG.mk (fun h => ?_) (fun h => ?_) <;> (try simp only [decide_eq_true_eq, decide_eq_false_iff_not, Bool.not_eq_true', Bool.not_eq_false', beq_iff_eq, beq_eq_false_iff_ne] at h) <;> (first | (exfalso; first | omega | exact h trivial) | (conv => whnf))) | (refine Ask.mk (by first | omega | (unfold roomOK; simp [cutRows]; done) | (unfold roomOK; simp [cutRows]; omega)) ?_; conv => whnf) | (refine AppG.mk (by first | omega | (unfold roomOK; simp [cutRows]; done) | (unfold roomOK; simp [cutRows]; omega)) ?_; conv => whnf) | (refine SliceG.fr ?_; conv => whnf) | fail)
  all_goals try exact finb (by simp_all [keyB] <;> omega)
  refine loop_count (s.size) [] [0, 23, 24] (fun k (_ : Unit) => ⟨[(0, .c (.str s)), (23, .c (.int .i64 s.size)), (24, .c (.int .i64 k))], [], 0⟩) (fun k (_ : Unit) => ∀ i, i < k → isKeyC (byteAt s i) = true) (()) ?_ ?_ ?_
  · conv => whnf
    exact ⟨rfl, by simp⟩
  · intro k _ hk hi
    conv => whnf
    repeat' (first | (refine Split.mk (fun h => ?_) (fun h => ?_) <;> (try simp only [decide_eq_true_eq, decide_eq_false_iff_not, Bool.not_eq_true', Bool.not_eq_false', beq_iff_eq, beq_eq_false_iff_ne] at h) <;> (first | (exfalso; first | omega | exact h trivial) | (conv => whnf))) | (refine CondG.mk (fun h => ?_) (fun h => ?_) <;> (try simp only [decide_eq_true_eq, decide_eq_false_iff_not, Bool.not_eq_true', Bool.not_eq_false', beq_iff_eq, beq_eq_false_iff_ne] at h) <;> (first | (exfalso; first | omega | exact h trivial) | (conv => whnf))) | (refine Ask.mk (by first | omega | (unfold roomOK; simp [cutRows]; done) | (unfold roomOK; simp [cutRows]; omega)) ?_; conv => whnf) | (refine AppG.mk (by first | omega | (unfold roomOK; simp [cutRows]; done) | (unfold roomOK; simp [cutRows]; omega)) ?_; conv => whnf) | (refine SliceG.fr ?_; conv => whnf) | fail)
    all_goals first
      | exact finb (by rw [eq_comm, keyB, decide_eq_false_iff_not]; intro hh; have h5 := hh.2.2.2.2 k hk; simp_all [isKeyC] <;> omega)
      | skip
    all_goals (refine count_next () hk (by rw [wrap_succ hk (by omega)]; rfl) (all_succ hi ?_); simp_all [isKeyC] <;> omega)
  · intro _ hi
    conv => whnf
    repeat' (first | (refine Split.mk (fun h => ?_) (fun h => ?_) <;> (try simp only [decide_eq_true_eq, decide_eq_false_iff_not, Bool.not_eq_true', Bool.not_eq_false', beq_iff_eq, beq_eq_false_iff_ne] at h) <;> (first | (exfalso; first | omega | exact h trivial) | (conv => whnf))) | (refine CondG.mk (fun h => ?_) (fun h => ?_) <;> (try simp only [decide_eq_true_eq, decide_eq_false_iff_not, Bool.not_eq_true', Bool.not_eq_false', beq_iff_eq, beq_eq_false_iff_ne] at h) <;> (first | (exfalso; first | omega | exact h trivial) | (conv => whnf))) | (refine Ask.mk (by first | omega | (unfold roomOK; simp [cutRows]; done) | (unfold roomOK; simp [cutRows]; omega)) ?_; conv => whnf) | (refine AppG.mk (by first | omega | (unfold roomOK; simp [cutRows]; done) | (unfold roomOK; simp [cutRows]; omega)) ?_; conv => whnf) | (refine SliceG.fr ?_; conv => whnf) | fail)
    exact finb (by rw [eq_comm, keyB, decide_eq_true_iff]; exact ⟨by omega, by omega, by simp_all <;> omega, by simp_all <;> omega, hi⟩)

theorem PCs.of_same {P : Program} {f : Nat} {args : List S} {r : S} {cargs : Array Value} {c : Value} (hfn : ∃ fn, P.funcs[f]? = some fn ∧ (fn.name == "runtime.NumGoroutine") = false ∧ fn.body.isNone = false)
    (ha : ∀ (F : Nat → Prop) (φ : Nat → Option Value) (w : World) (cs : Array Value), P2 (RS F φ w) cs.toList args → cs = cargs) (hr : ∀ (F : Nat → Prop) (φ : Nat → Option Value) (w : World), RS F φ w c r) (h : ∀ w, Calls P f cargs w fun e w' => e = .returned c ∧ w' = w) : PCs P f args [] r [] := by
  refine ⟨hfn, fun F φ w cs hp hrp hφ => ?_⟩
  have := ha F φ w cs hp
  subst this
  refine (h w).mono ?_
  rintro e w' ⟨rfl, rfl⟩
  exact ⟨c, F, φ, r, [], ⟨rfl, rfl⟩, rfl, hr F φ w', Nx.refl⟩
theorem args2 {F : Nat → Prop} {φ : Nat → Option Value} {w : World} {cs : Array Value} {s1 s2 : S} {c1 c2 : Value} (h1 : ∀ c, RS F φ w c s1 → c = c1) (h2 : ∀ c, RS F φ w c s2 → c = c2) (hp : P2 (RS F φ w) cs.toList [s1, s2]) : cs = #[c1, c2] := by
  obtain ⟨x, xs, e1, r1, hp⟩ := hp.cons_inv
  obtain ⟨y, ys, e2, r2, hp⟩ := hp.cons_inv
  have := hp.nil_inv
  subst this
  subst e2
  apply Array.ext'
  rw [e1, h1 x r1, h2 y r2]

set_option maxHeartbeats 1000000 in
set_option maxRecDepth 100000 in
theorem slIndexByte_calls (s : ByteArray) (c : Int) (w : World) :
    Calls Tryz.prog 225 #[.string s, .int .u8 c] w fun e w' => e = .returned (.int .i64 (Lib.indexByte s.data.toList c.toNat.toUInt8)) ∧ w' = w := by
  go_enter Tryz.func225, Tryz.ntmps225
  go_wp2
  rw [run_callFunc_extern Tryz.func238 (by kernel_rfl) (by kernel_rfl) (by kernel_rfl) (e := Extern.BytealgIndexByte.indexByte) (by kernel_rfl), Lib.run_indexByteString]
  simp only [Result.andThen]
  rw [Oper.upon_value]
  go_wp2
  go_ret
  exact ⟨rfl, rfl⟩
set_option maxHeartbeats 1000000 in
set_option maxRecDepth 100000 in
theorem baCompare_calls (a b : ByteArray) (w : World) :
    Calls Tryz.prog 132 #[.string a, .string b] w fun e w' => e = .returned (.int .i64 (Lib.compareBytes a.data.toList b.data.toList)) ∧ w' = w := by
  go_enter Tryz.func132, Tryz.ntmps132
  go_wp2
  rw [run_callFunc_extern Tryz.func183 (by kernel_rfl) (by kernel_rfl) (by kernel_rfl) (e := Extern.BytealgCompare.compare) (by kernel_rfl), Lib.run_compareString]
  simp only [Result.andThen]
  rw [Oper.upon_value]
  go_wp2
  go_ret
  exact ⟨rfl, rfl⟩
theorem slIndexByte_pc (s : ByteArray) (c : Int) : PCp 225 [.c (.str s), .c (.int .u8 c)] [] (.c (.int .i64 (Lib.indexByte s.data.toList c.toNat.toUInt8))) [] :=
  PCs.of_same ⟨_, Tryz.func225, by kernel_rfl, by kernel_rfl⟩ (fun F φ w cs hp => args2 (fun c h => h.str_inv) (fun c h => h.int_inv) hp) (fun F φ w => RS.mki _ _) (slIndexByte_calls s c)
theorem baCompare_pc (a b : ByteArray) : PCp 132 [.c (.str a), .c (.str b)] [] (.c (.int .i64 (Lib.compareBytes a.data.toList b.data.toList))) [] :=
  PCs.of_same ⟨_, Tryz.func132, by kernel_rfl, by kernel_rfl⟩ (fun F φ w cs hp => args2 (fun c h => h.str_inv) (fun c h => h.str_inv) hp) (fun F φ w => RS.mki _ _) (baCompare_calls a b)
set_option maxRecDepth 100000 in
set_option maxHeartbeats 4000000 in
theorem sIndexByte_pc (s : ByteArray) (c : Int) : PCp 189 [.c (.str s), .c (.int .u8 c)] [] (.c (.int .i64 (Lib.indexByte s.data.toList c.toNat.toUInt8))) [] := by
  refine fn_sound (mt := mts) tab_fits tab_mixed Tryz.func189 (by rfl) (by kernel_rfl) (by kernel_rfl) Tryz.results189 (Nat.le_of_ble_eq_true (by kernel_rfl)) ?_
  conv => whnf
  repeat' (first | (refine Split.mk (fun h => ?_) (fun h => ?_) <;> (try simp only [decide_eq_true_eq, decide_eq_false_iff_not, Bool.not_eq_true', Bool.not_eq_false', beq_iff_eq, beq_eq_false_iff_ne] at h) <;> (first | (exfalso; first | omega | exact h trivial) | (conv => whnf))) | (refine CondG.mk (fun h => ?_) (fun h => ?_) <;> (try simp only [decide_eq_true_eq, decide_eq_false_iff_not, Bool.not_eq_true', Bool.not_eq_false', beq_iff_eq, beq_eq_false_iff_ne] at h) <;> (first | (exfalso; first | omega | exact h trivial) | (conv => whnf))) | (refine CallX.mk _ _ (by first | exact slIndexByte_pc _ _) ?_; conv => whnf) | (refine CallG.mk _ _ (by first | exact slIndexByte_pc _ _) ?_; conv => whnf) | (refine Ask.mk (by first | omega | (unfold roomOK; simp [cutRows]; done) | (unfold roomOK; simp [cutRows]; omega)) ?_; conv => whnf) | (refine AppG.mk (by first | omega | (unfold roomOK; simp [cutRows]; done) | (unfold roomOK; simp [cutRows]; omega)) ?_; conv => whnf) | (refine SliceG.fr ?_; conv => whnf) | fail)
  exact fini rfl
def cmpS (a b : ByteArray) : Int := Lib.compareBytes a.data.toList b.data.toList
set_option maxRecDepth 100000 in
set_option maxHeartbeats 4000000 in
theorem sCompare_pc (a b : ByteArray) : PCp 78 [.c (.str a), .c (.str b)] [] (.c (.int .i64 (cmpS a b))) [] := by
  refine fn_sound (mt := mts) tab_fits tab_mixed Tryz.func78 (by rfl) (by kernel_rfl) (by kernel_rfl) Tryz.results78 (Nat.le_of_ble_eq_true (by kernel_rfl)) ?_
  conv => whnf
  repeat' (first | (refine Split.mk (fun h => ?_) (fun h => ?_) <;> (try simp only [decide_eq_true_eq, decide_eq_false_iff_not, Bool.not_eq_true', Bool.not_eq_false', beq_iff_eq, beq_eq_false_iff_ne] at h) <;> (first | (exfalso; first | omega | exact h trivial) | (conv => whnf))) | (refine CondG.mk (fun h => ?_) (fun h => ?_) <;> (try simp only [decide_eq_true_eq, decide_eq_false_iff_not, Bool.not_eq_true', Bool.not_eq_false', beq_iff_eq, beq_eq_false_iff_ne] at h) <;> (first | (exfalso; first | omega | exact h trivial) | (conv => whnf))) | (refine CallX.mk _ _ (by first | exact baCompare_pc _ _) ?_; conv => whnf) | (refine CallG.mk _ _ (by first | exact baCompare_pc _ _) ?_; conv => whnf) | (refine Ask.mk (by first | omega | (unfold roomOK; simp [cutRows]; done) | (unfold roomOK; simp [cutRows]; omega)) ?_; conv => whnf) | (refine AppG.mk (by first | omega | (unfold roomOK; simp [cutRows]; done) | (unfold roomOK; simp [cutRows]; omega)) ?_; conv => whnf) | (refine SliceG.fr ?_; conv => whnf) | fail)
  exact fini rfl

def onlyB (s t : ByteArray) : Bool := decide (∀ i, i < s.size → 0 ≤ Lib.indexByte t.data.toList (byteAt s i).toNat.toUInt8)
set_option maxRecDepth 100000 in
set_option maxHeartbeats 4000000 in
theorem only_pc (s t : ByteArray) (hs : s.size ≤ 1000000) : PCp 147 [.c (.str s), .c (.str t)] [] (.c (.bool (onlyB s t))) [] := by
  refine fn_sound (mt := mts) tab_fits tab_mixed Tryz.func147 (by rfl) (by kernel_rfl) (by kernel_rfl) Tryz.results147 (Nat.le_of_ble_eq_true (by kernel_rfl)) ?_
  conv => whnf
  refine loop_count (s.size) [] [0, 1, 7, 8] (fun k (_ : Unit) => ⟨[(0, .c (.str s)), (1, .c (.str t)), (7, .c (.int .i64 s.size)), (8, .c (.int .i64 k))], [], 0⟩) (fun k (_ : Unit) => ∀ i, i < k → 0 ≤ Lib.indexByte t.data.toList (byteAt s i).toNat.toUInt8) (()) ?_ ?_ ?_
  · conv => whnf
    exact ⟨rfl, by simp⟩
  · intro k _ hk hi
    conv => whnf
    repeat' (first | (refine Split.mk (fun h => ?_) (fun h => ?_) <;> (try simp only [decide_eq_true_eq, decide_eq_false_iff_not, Bool.not_eq_true', Bool.not_eq_false', beq_iff_eq, beq_eq_false_iff_ne] at h) <;> (first | (exfalso; first | omega | exact h trivial) | (conv => whnf))) | (refine CondG.mk (fun h => ?_) (fun h => ?_) <;> (try simp only [decide_eq_true_eq, decide_eq_false_iff_not, Bool.not_eq_true', Bool.not_eq_false', beq_iff_eq, beq_eq_false_iff_ne] at h) <;> (first | (exfalso; first | omega | exact h trivial) | (conv => whnf))) | (refine CallX.mk _ _ (by first | exact sIndexByte_pc _ _) ?_; conv => whnf) | (refine CallG.mk _ _ (by first | exact sIndexByte_pc _ _) ?_; conv => whnf) | (refine Ask.mk (by first | omega | (unfold roomOK; simp [cutRows]; done) | (unfold roomOK; simp [cutRows]; omega)) ?_; conv => whnf) | (refine AppG.mk (by first | omega | (unfold roomOK; simp [cutRows]; done) | (unfold roomOK; simp [cutRows]; omega)) ?_; conv => whnf) | (refine SliceG.fr ?_; conv => whnf) | fail)
    · exact finb (by rw [eq_comm, onlyB, decide_eq_false_iff_not]; intro hh; have h5 := hh k hk; exact absurd h (Int.not_lt.2 h5))
    · refine count_next () hk (by rw [wrap_succ hk (by omega)]; rfl) ?_
      exact all_succ hi (Int.not_lt.1 h)
  · intro _ hi
    conv => whnf
    repeat' (first | (refine Split.mk (fun h => ?_) (fun h => ?_) <;> (try simp only [decide_eq_true_eq, decide_eq_false_iff_not, Bool.not_eq_true', Bool.not_eq_false', beq_iff_eq, beq_eq_false_iff_ne] at h) <;> (first | (exfalso; first | omega | exact h trivial) | (conv => whnf))) | (refine CondG.mk (fun h => ?_) (fun h => ?_) <;> (try simp only [decide_eq_true_eq, decide_eq_false_iff_not, Bool.not_eq_true', Bool.not_eq_false', beq_iff_eq, beq_eq_false_iff_ne] at h) <;> (first | (exfalso; first | omega | exact h trivial) | (conv => whnf))) | (refine Ask.mk (by first | omega | (unfold roomOK; simp [cutRows]; done) | (unfold roomOK; simp [cutRows]; omega)) ?_; conv => whnf) | (refine AppG.mk (by first | omega | (unfold roomOK; simp [cutRows]; done) | (unfold roomOK; simp [cutRows]; omega)) ?_; conv => whnf) | (refine SliceG.fr ?_; conv => whnf) | fail)
    exact finb (by rw [eq_comm, onlyB, decide_eq_true_iff]; exact hi)
/-- a list that is given back, or nil -/
theorem fini' {m : Nat} {k : IntKind} {a b : Int} {os os' : List Ob} (h : a = b) (ho : os = os') : FinR m (.c (.int k b)) os' (.c (.int k a)) os := .mk ⟨by rw [h], ho⟩
end Go.Proofs.YtllpjcgadfmipaaGreat

/- The generator's stream, by the abstract walk. -/
namespace Go.Proofs.YtllpjcgadfmipaaGreat
set_option linter.unusedVariables false
set_option linter.unusedSimpArgs false
open Abs

theorem mapAt {α : Type} {enc : α → List V} {l : List α} {k : Nat} (d : α) (h : k < l.length) : 0 ≤ (k : Int) ∧ (l.map enc)[(k : Int).toNat]? = some (enc (l.getD k d)) := ⟨by omega, by simp [h]⟩
theorem mapAtW {α : Type} {enc : α → List V} {l : List α} {e : Int} {j : Nat} (d : α) (he : e = (j : Int)) (h : j < l.length) : 0 ≤ e ∧ (l.map enc)[e.toNat]? = some (enc (l.getD j d)) := by subst he; exact mapAt d h
def encI (n : Int) : List V := [.int .i64 n]
def encS (s : ByteArray) : List V := [.str s]
def firstErr : List Int → Int
  | [] => 0
  | x :: r => if x = 0 then firstErr r else x
def belowV (x n : Int) : Int := if n < 1 then 0 else if x.tmod n < 0 then x.tmod n + n else x.tmod n
theorem belowV_lt (x n : Int) (h : 1 ≤ n) : 0 ≤ belowV x n ∧ belowV x n < n := by
  have h1 := Int.tmod_lt_of_pos x (show 0 < n by omega)
  have h2 : -n < x.tmod n := by
    have := Int.lt_tmod_of_pos x (show 0 < n by omega)
    omega
  unfold belowV
  rw [if_neg (by omega)]
  split <;> omega

set_option maxRecDepth 100000 in
set_option maxHeartbeats 4000000 in
theorem below_pc (x n : Int) (hn : n ≤ 4611686018427387904) : PCp 114 [.c (.int .i64 x), .c (.int .i64 n)] [] (.c (.int .i64 (belowV x n))) [] := by
  refine fn_sound (mt := mts) tab_fits tab_mixed Tryz.func114 (by rfl) (by kernel_rfl) (by kernel_rfl) Tryz.results114 (Nat.le_of_ble_eq_true (by kernel_rfl)) ?_
  conv => whnf
  constructor
  · intro h
    conv => whnf
    have h := of_decide_eq_true h
    exact .mk ⟨by simp [oneOf, belowV, h], rfl⟩
  · intro h
    have h := of_decide_eq_false h
    conv => whnf
    refine ⟨by omega, ?_⟩
    conv => whnf
    have h1 := Int.tmod_lt_of_pos x (show 0 < n by omega)
    have h2 : -n < x.tmod n := Int.lt_tmod_of_pos x (show 0 < n by omega)
    constructor
    · intro h3
      have h3 := of_decide_eq_true h3
      conv => whnf
      refine .mk ⟨?_, rfl⟩
      show S.c _ = _
      rw [IntWalk.i64_in _ ⟨by omega, by omega⟩, belowV, if_neg h, if_pos h3]
    · intro h3
      have h3 := of_decide_eq_false h3
      conv => whnf
      refine .mk ⟨?_, rfl⟩
      show S.c _ = _
      rw [belowV, if_neg h, if_neg h3]

def nextV (L : List Int) (p n : Int) : Int :=
  if L.length = 0 then belowV (IntKind.i64.wrap ((p + 1) * 7919)) n
  else belowV (IntKind.i64.wrap (belowV (L.getD (p.tmod L.length).toNat 0) 1073741824 + IntKind.i64.wrap (IntKind.i64.wrap (p.tdiv L.length) * IntKind.i64.wrap (7919 + p.tmod L.length)))) n
theorem nextV_lt (L : List Int) (p n : Int) (h : 1 ≤ n) : 0 ≤ nextV L p n ∧ nextV L p n < n := by
  unfold nextV
  split <;> exact belowV_lt _ _ h

set_option maxRecDepth 100000 in
theorem next_pc (L : List Int) (p n : Int) (hp : 0 ≤ p) (hp2 : p ≤ 1000000000) (hL : L.length ≤ 9223372036854775807) (hn : n ≤ 4611686018427387904) :
    PCp 59 [.c (.ptr 0 0), .c (.int .i64 n)] [.box [.lst 1 (L.map encI), .int .i64 p]] (.c (.int .i64 (nextV L p n))) [.box [.lst 1 (L.map encI), .int .i64 (p + 1)]] := by
  have hw : IntKind.i64.wrap (p + 1) = p + 1 := IntWalk.i64_in _ ⟨by omega, by omega⟩
  have hw2 : IntKind.i64.wrap (p + 1 - 1) = p := by rw [IntWalk.i64_in _ ⟨by omega, by omega⟩]; omega
  refine fn_sound (mt := mts) tab_fits tab_mixed Tryz.func59 (by rfl) (by kernel_rfl) (by kernel_rfl) Tryz.results59 (Nat.le_of_ble_eq_true (by kernel_rfl)) ?_
  conv => whnf
  constructor
  · intro h
    have h0 : L.length = 0 := by simpa using h
    conv => whnf
    refine .mk _ _ (below_pc _ _ hn) ?_
    conv => whnf
    refine .mk ⟨?_, ?_⟩
    · show S.c _ = _
      rw [nextV, if_pos h0, hw]
    · show [Ob.box _] = _
      rw [hw]
  · intro h
    have h0 : ¬ L.length = 0 := by
      have := of_decide_eq_false h
      intro e
      simp [e] at this
    conv => whnf
    have hlen : (((L.map encI).length : Nat) : Int) = (L.length : Int) := by simp
    have hne : ¬ (((L.map encI).length : Nat) : Int) = 0 := by rw [hlen]; omega
    refine ⟨hne, ?_⟩
    conv => whnf
    refine ⟨hne, ?_⟩
    conv => whnf
    have hm : IntKind.i64.wrap (IntKind.i64.wrap (p + 1) - 1) = p := by rw [hw, hw2]
    have hi0 : 0 ≤ p.tmod L.length := Int.tmod_nonneg _ hp
    have hi1 : p.tmod L.length < L.length := Int.tmod_lt_of_pos _ (by omega)
    refine ⟨_, mapAtW (j := (p.tmod L.length).toNat) 0 (by rw [hm, hlen]; omega) (by omega), ?_⟩
    conv => whnf
    refine .mk _ _ (below_pc _ _ (by omega)) ?_
    conv => whnf
    refine .mk _ _ (below_pc _ _ hn) ?_
    conv => whnf
    refine .mk ⟨?_, ?_⟩
    · show S.c _ = _
      rw [nextV, if_neg h0, hm, hlen]
    · show [Ob.box _] = _
      rw [hw]

/-- the stream as an object -/
abbrev stO (L : List Int) (p : Int) : Ob := .box [.lst 1 (L.map encI), .int .i64 p]
def pickV (L : List Int) (p : Int) (l : List Int) : Int := l.getD (nextV L p l.length).toNat 0

set_option maxRecDepth 100000 in
theorem pick_pc (L : List Int) (p : Int) (l : List Int) (hp : 0 ≤ p) (hp2 : p ≤ 1000000000) (hL : L.length ≤ 9223372036854775807) (h1 : 1 ≤ l.length) (h2 : l.length ≤ 1000000000) :
    PCp 90 [.c (.ptr 0 0), .c (.lst 1 (l.map encI))] [stO L p] (.c (.int .i64 (pickV L p l))) [stO L (p + 1)] := by
  have hlen : (((l.map encI).length : Nat) : Int) = (l.length : Int) := by simp
  have hb := nextV_lt L p l.length (by omega)
  refine fn_sound (mt := mts) tab_fits tab_mixed Tryz.func90 (by rfl) (by kernel_rfl) (by kernel_rfl) Tryz.results90 (Nat.le_of_ble_eq_true (by kernel_rfl)) ?_
  conv => whnf
  refine .mk _ _ (next_pc L p _ hp hp2 hL (by rw [hlen]; omega)) ?_
  conv => whnf
  rw [hlen]
  refine ⟨_, mapAtW (j := (nextV L p l.length).toNat) 0 (by omega) (by omega), ?_⟩
  conv => whnf
  exact .mk ⟨rfl, rfl⟩

def rangeV (L : List Int) (p a b : Int) : Int := if b < a then a else a + nextV L p (b - a + 1)
theorem rangeV_in (L : List Int) (p a b : Int) (h : a ≤ b) : a ≤ rangeV L p a b ∧ rangeV L p a b ≤ b := by
  have := nextV_lt L p (b - a + 1) (by omega)
  unfold rangeV
  rw [if_neg (by omega)]
  omega
def small (x : Int) : Prop := -1000000000000 ≤ x ∧ x ≤ 1000000000000

set_option maxRecDepth 100000 in
theorem small_lit {n : Int} (h : -1000000 ≤ n ∧ n ≤ 1000000) : small n := by unfold small; omega
set_option maxRecDepth 100000 in
set_option maxHeartbeats 4000000 in
theorem range_pc (L : List Int) (p a b : Int) (hp : 0 ≤ p) (hp2 : p ≤ 1000000000) (hL : L.length ≤ 9223372036854775807) (hab : a ≤ b) (ha : small a) (hb : small b) :
    PCp 30 [.c (.ptr 0 0), .c (.int .i64 a), .c (.int .i64 b)] [stO L p] (.c (.int .i64 (rangeV L p a b))) [stO L (p + 1)] := by
  have e1 : IntKind.i64.wrap (b - a) = b - a := IntWalk.i64_in _ (by unfold small at *; omega)
  have e2 : IntKind.i64.wrap (b - a + 1) = b - a + 1 := IntWalk.i64_in _ (by unfold small at *; omega)
  have hn := nextV_lt L p (b - a + 1) (by omega)
  refine fn_sound (mt := mts) tab_fits tab_mixed Tryz.func30 (by rfl) (by kernel_rfl) (by kernel_rfl) Tryz.results30 (Nat.le_of_ble_eq_true (by kernel_rfl)) ?_
  conv => whnf
  constructor
  · intro h
    have h := of_decide_eq_true h
    omega
  · intro h
    conv => whnf
    rw [e1, e2]
    refine .mk _ _ (next_pc L p _ hp hp2 hL (by unfold small at *; omega)) ?_
    conv => whnf
    refine .mk ⟨?_, rfl⟩
    show S.c _ = _
    rw [IntWalk.i64_in _ (by unfold small at *; omega), rangeV, if_neg (by omega)]

def someV (L : List Int) (p : Int) (l : List ByteArray) : ByteArray := l.getD (nextV L p l.length).toNat default
theorem someV_in (L : List Int) (p : Int) (l : List ByteArray) (h : 1 ≤ l.length) : someV L p l ∈ l := by
  have := nextV_lt L p l.length (by omega)
  have h2 : (nextV L p l.length).toNat < l.length := by omega
  unfold someV
  have : l.getD (nextV L p l.length).toNat default = l[(nextV L p l.length).toNat] := by simp [h2]
  rw [this]
  exact List.getElem_mem h2

set_option maxRecDepth 100000 in
theorem some_pc (L : List Int) (p : Int) (l : List ByteArray) (hp : 0 ≤ p) (hp2 : p ≤ 1000000000) (hL : L.length ≤ 9223372036854775807) (h1 : 1 ≤ l.length) (h2 : l.length ≤ 1000000000) :
    PCp 41 [.c (.ptr 0 0), .c (.lst 1 (l.map encS))] [stO L p] (.c (.str (someV L p l))) [stO L (p + 1)] := by
  have hlen : (((l.map encS).length : Nat) : Int) = (l.length : Int) := by simp
  have hb := nextV_lt L p l.length (by omega)
  refine fn_sound (mt := mts) tab_fits tab_mixed Tryz.func41 (by rfl) (by kernel_rfl) (by kernel_rfl) Tryz.results41 (Nat.le_of_ble_eq_true (by kernel_rfl)) ?_
  conv => whnf
  refine .mk _ _ (next_pc L p _ hp hp2 hL (by rw [hlen]; omega)) ?_
  conv => whnf
  rw [hlen]
  refine ⟨_, mapAtW (j := (nextV L p l.length).toNat) default (by omega) (by omega), ?_⟩
  conv => whnf
  exact .mk ⟨rfl, rfl⟩

set_option maxRecDepth 100000 in
set_option maxHeartbeats 4000000 in
theorem flip_pc (L : List Int) (p n : Int) (hp : 0 ≤ p) (hp2 : p ≤ 1000000000) (hL : L.length ≤ 9223372036854775807) (hn : n ≤ 1000000000) :
    PCp 40 [.c (.ptr 0 0), .c (.int .i64 n)] [stO L p] (.c (.bool (nextV L p n == 0))) [stO L (p + 1)] := by
  refine fn_sound (mt := mts) tab_fits tab_mixed Tryz.func40 (by rfl) (by kernel_rfl) (by kernel_rfl) Tryz.results40 (Nat.le_of_ble_eq_true (by kernel_rfl)) ?_
  conv => whnf
  refine .mk _ _ (next_pc L p _ hp hp2 hL (by omega)) ?_
  conv => whnf
  exact .mk ⟨rfl, rfl⟩


/-- a stream that goes on -/
def StOk (L : List Int) (p : Int) : Prop := L.length ≤ 9223372036854775807 ∧ 0 ≤ p ∧ p ≤ 900000000
theorem next_ok {L : List Int} {p : Int} (h : StOk L p) (n : Int) (hn : n ≤ 1000000000) : PCp 59 [.c (.ptr 0 0), .c (.int .i64 n)] [stO L p] (.c (.int .i64 (nextV L p n))) [stO L (p + 1)] :=
  next_pc L p n h.2.1 (by have := h.2.2; omega) h.1 (by omega)
theorem flip_ok {L : List Int} {p : Int} (h : StOk L p) (n : Int) (hn : n ≤ 1000000000) : PCp 40 [.c (.ptr 0 0), .c (.int .i64 n)] [stO L p] (.c (.bool (nextV L p n == 0))) [stO L (p + 1)] :=
  flip_pc L p n h.2.1 (by have := h.2.2; omega) h.1 hn
theorem pick_ok {L : List Int} {p : Int} (h : StOk L p) (l : List Int) (h1 : 1 ≤ l.length) (h2 : l.length ≤ 1000000000) : PCp 90 [.c (.ptr 0 0), .c (.lst 1 (l.map encI))] [stO L p] (.c (.int .i64 (pickV L p l))) [stO L (p + 1)] :=
  pick_pc L p l h.2.1 (by have := h.2.2; omega) h.1 h1 h2
theorem some_ok {L : List Int} {p : Int} (h : StOk L p) (l : List ByteArray) (h1 : 1 ≤ l.length) (h2 : l.length ≤ 1000000000) : PCp 41 [.c (.ptr 0 0), .c (.lst 1 (l.map encS))] [stO L p] (.c (.str (someV L p l))) [stO L (p + 1)] :=
  some_pc L p l h.2.1 (by have := h.2.2; omega) h.1 h1 h2
theorem range_ok {L : List Int} {p : Int} (h : StOk L p) (a b : Int) (hab : a ≤ b) (ha : small a) (hb : small b) : PCp 30 [.c (.ptr 0 0), .c (.int .i64 a), .c (.int .i64 b)] [stO L p] (.c (.int .i64 (rangeV L p a b))) [stO L (p + 1)] :=
  range_pc L p a b h.2.1 (by have := h.2.2; omega) h.1 hab ha hb
end Go.Proofs.YtllpjcgadfmipaaGreat

/- How a law's contract meets the row. -/
namespace Go.Proofs.YtllpjcgadfmipaaGreat
set_option linter.unusedVariables false
set_option linter.unusedSimpArgs false
open Go.ChangeShapes Go.WideShapes Go.ChangeAt Go.RowKit
open Abs

theorem walk_of_pc' {f : Nat} (H : ∀ L : List Int, L.length ≤ 9223372036854775807 → PCp f [.c (.lst 1 (L.map encI))] [] (.c (.bool true)) [])
    (a : Option Addr) (len cap : Nat) (zs : List Int) (w : World) (hg : ∀ g ∈ globs, g.1 < w.heap.size ∧ ∃ t f, w.heap[g.1]? = some (.cells g.2 t f)) (h : IsRow .i64 w a len cap zs) :
    Calls Tryz.prog f #[.slice a len cap] w fun e w' => e = .returned (.bool true) ∧ Below w.heap.size w w' := by
  have key : ∀ L : List Int, L.length ≤ 9223372036854775807 → RT (fun b => b < w.heap.size) w (.slice a len cap) (.lst 1 (L.map encI)) →
      Calls Tryz.prog f #[.slice a len cap] w fun e w' => e = .returned (.bool true) ∧ Below w.heap.size w w' := by
    intro L hL hrt
    have hc := (H L hL).2 (fun b => b < w.heap.size) (fun _ => none) w #[.slice a len cap] (.cons (.c (.tree hrt)) .nil)
      ⟨fun l o h => by simp [nth] at h, fun l l' o o' b h => by simp [nth] at h, fun l o b h => by simp [nth] at h, fun b h => h, fun l c h => (by simp at h), hg⟩
      (fun l c h => by simp at h)
    refine hc.mono ?_
    rintro e w' ⟨c, F', φ', r0, os0, ⟨e1, e2⟩, rfl, hr, hn⟩
    subst e1 e2
    refine ⟨?_, hn.os, hn.tape, hn.output, hn.size, ?_⟩
    · cases hr with | c hv => cases hv with | tree ht => cases ht; rfl
    · intro k hk
      by_cases he : w'.heap[k]? = w.heap[k]?
      · exact he
      · obtain ⟨l, o, h1, _⟩ := hn.keep k hk he
        simp [nth] at h1
  rcases h with ⟨rfl, rfl, rfl, rfl⟩ | ⟨x, rfl, hl, hm, hz, hcell, -⟩
  · exact key [] (by simp) (.lst0 none 0 1 (Nat.zero_le _))
  · have hm' : cap ≤ 9223372036854775807 := hm
    by_cases h0 : len = 0
    · subst h0
      exact key [] (by simp) (.lst0 (some x) cap 1 hm)
    · obtain ⟨h1, h2⟩ := spot_none (hcell 0 (by omega))
      have h2 : x.block < w.heap.size := h2
      obtain ⟨b, o, sp⟩ := x
      have h1 : sp = none := h1
      subst h1
      refine key (zs.take len) (by simp; omega) (.lst b o len cap 1 _ (fun i _ => .int .i64 (zs.getD i 0)) h2 (by simp; omega) hl hm ?_ ?_ ?_)
      · intro r hr
        obtain ⟨y, _, rfl⟩ := List.mem_map.1 hr
        rfl
      · intro i j hi hj
        have hj0 : j = 0 := by omega
        subst hj0
        have h6 : (⟨b, o, none⟩ : Addr).add i = ⟨b, o + i, none⟩ := by unfold Addr.add; split <;> simp_all
        have := hcell i (by omega)
        rw [h6] at this
        simpa using this
      · intro i r j v hr hv
        have hi : i < (zs.take len).length := by
          have := (List.getElem?_eq_some_iff.1 hr).1
          simpa using this
        have hi2 : i < zs.length := by simp at hi; omega
        rw [List.getElem?_map, List.getElem?_eq_getElem hi] at hr
        simp only [Option.map_some, Option.some.injEq] at hr
        subst hr
        cases j with
        | zero =>
          simp only [encI, List.getElem?_cons_zero, Option.some.injEq] at hv
          subst hv
          simp only [List.getElem_take]
          rw [show zs.getD i 0 = zs[i] by simp [hi2]]
          exact .int _ _
        | succ j => simp [encI] at hv
theorem walk_of_pc {f : Nat} (H : ∀ L : List Int, L.length ≤ 9223372036854775807 → PCp f [.c (.lst 1 (L.map encI))] [] (.c (.bool true)) [])
    (hg : globs = []) (a : Option Addr) (len cap : Nat) (zs : List Int) (w : World) (h : IsRow .i64 w a len cap zs) :
    Calls Tryz.prog f #[.slice a len cap] w fun e w' => e = .returned (.bool true) ∧ Below w.heap.size w w' :=
  walk_of_pc' H a len cap zs w (fun g h => by rw [hg] at h; cases h) h
end Go.Proofs.YtllpjcgadfmipaaGreat

/- Drums, sections, rules and plans are made, by the abstract walk. -/
namespace Go.Proofs.YtllpjcgadfmipaaGreat
set_option linter.unusedVariables false
set_option linter.unusedSimpArgs false
open Abs

structure Pc where
  key : ByteArray
  kind : ByteArray
  long : Int
def encPc (x : Pc) : List V := [.str x.key, .str x.kind, .int .i64 x.long]
instance : Inhabited Pc := ⟨⟨default, default, 0⟩⟩
end Go.Proofs.YtllpjcgadfmipaaGreat

/- Checks of drums, sections and rules, by the abstract walk. -/
namespace Go.Proofs.YtllpjcgadfmipaaGreat
set_option linter.unusedVariables false
set_option linter.unusedSimpArgs false
open Abs

def smalls : ByteArray := ⟨#[97, 98, 99, 100, 101, 102, 103, 104, 105, 106, 107, 108, 109, 110, 111, 112, 113, 114, 115, 116, 117, 118, 119, 120, 121, 122]⟩
def keyChars : ByteArray := ⟨#[97, 98, 99, 100, 101, 102, 103, 104, 105, 106, 107, 108, 109, 110, 111, 112, 113, 114, 115, 116, 117, 118, 119, 120, 121, 122, 48, 49, 50, 51, 52, 53, 54, 55, 56, 57, 45, 95]⟩
theorem smalls_ix : ∀ c : Fin 256, decide (0 ≤ Lib.indexByte smalls.data.toList ((c.val : Int).toNat.toUInt8)) = decide (97 ≤ (c.val : Int) ∧ (c.val : Int) ≤ 122) := by decide +kernel
theorem chars_ix : ∀ c : Fin 256, decide (0 ≤ Lib.indexByte keyChars.data.toList ((c.val : Int).toNat.toUInt8)) = isKeyC (c.val : Int) := by decide +kernel
theorem byteAt_lt (s : ByteArray) (i : Nat) : ∃ c : Fin 256, byteAt s i = (c.val : Int) := ⟨⟨(s.data.getD i 0).toNat, UInt8.toNat_lt _⟩, rfl⟩
theorem extract1 (s : ByteArray) (h : 1 ≤ s.size) : (s.extract 0 1).size = 1 ∧ byteAt (s.extract 0 1) 0 = byteAt s 0 := by
  have h1 : (s.extract 0 1).size = 1 := by rw [ByteArray.size_extract]; omega
  refine ⟨h1, ?_⟩
  unfold byteAt
  have h2 : 0 < (s.extract 0 1).data.size := by have : (s.extract 0 1).data.size = 1 := h1; omega
  have h3 : 0 < s.data.size := h
  simp only [Array.getD, h2, h3, dif_pos]
  congr 1
  have : (s.extract 0 1).data = s.data.extract 0 1 := by simp
  simp [this]
theorem keyR_eq (s : ByteArray) (h : 1 ≤ s.size ∧ s.size ≤ 40) : (onlyB (s.extract 0 1) smalls && onlyB s keyChars) = keyB s := by
  obtain ⟨e1, e2⟩ := extract1 s h.1
  rw [Bool.eq_iff_iff, Bool.and_eq_true]
  simp only [onlyB, keyB, decide_eq_true_eq, e1]
  have k1 : (∀ i, i < 1 → 0 ≤ Lib.indexByte smalls.data.toList (byteAt (s.extract 0 1) i).toNat.toUInt8) ↔ (97 ≤ byteAt s 0 ∧ byteAt s 0 ≤ 122) := by
    obtain ⟨c, hc⟩ := byteAt_lt s 0
    have := smalls_ix c
    rw [← hc, decide_eq_decide] at this
    rw [← this, ← e2]
    constructor
    · intro hh; exact hh 0 (by omega)
    · intro hh i hi
      have : i = 0 := by omega
      subst this; exact hh
  have k2 : (∀ i, i < s.size → 0 ≤ Lib.indexByte keyChars.data.toList (byteAt s i).toNat.toUInt8) ↔ (∀ i, i < s.size → isKeyC (byteAt s i) = true) := by
    have : ∀ i, 0 ≤ Lib.indexByte keyChars.data.toList (byteAt s i).toNat.toUInt8 ↔ isKeyC (byteAt s i) = true := by
      intro i
      obtain ⟨c, hc⟩ := byteAt_lt s i
      rw [hc, ← chars_ix c, decide_eq_true_eq]
    constructor
    · intro hh i hi; exact (this i).1 (hh i hi)
    · intro hh i hi; exact (this i).2 (hh i hi)
  rw [k1, k2]
  constructor
  · rintro ⟨⟨a, b⟩, c⟩; exact ⟨by omega, by omega, a, b, c⟩
  · rintro ⟨_, _, a, b, c⟩; exact ⟨⟨a, b⟩, c⟩
set_option maxRecDepth 100000 in
set_option maxHeartbeats 4000000 in
theorem rKey_pc (s : ByteArray) : PCp 91 [.c (.str s)] [] (.c (.bool (keyB s))) [] := by
  refine fn_sound (mt := mts) tab_fits tab_mixed Tryz.func91 (by rfl) (by kernel_rfl) (by kernel_rfl) Tryz.results91 (Nat.le_of_ble_eq_true (by kernel_rfl)) ?_
  conv => whnf
  repeat' (first | (refine Split.mk (fun h => ?_) (fun h => ?_) <;> (try simp only [decide_eq_true_eq, decide_eq_false_iff_not, Bool.not_eq_true', Bool.not_eq_false', beq_iff_eq, beq_eq_false_iff_ne] at h) <;> (first | (exfalso; first | omega | exact h trivial) | (conv => whnf))) | (refine CondG.mk (fun h => ?_) (fun h => ?_) <;> (try simp only [decide_eq_true_eq, decide_eq_false_iff_not, Bool.not_eq_true', Bool.not_eq_false', beq_iff_eq, beq_eq_false_iff_ne] at h) <;> (first | (exfalso; first | omega | exact h trivial) | (conv => whnf))) | (refine CallX.mk _ _ (by first | exact rIn_pc _ _ _) ?_; conv => whnf) | (refine CallG.mk _ _ (by first | exact rIn_pc _ _ _) ?_; conv => whnf) | (refine Ask.mk (by first | omega | (unfold roomOK; simp [cutRows]; done) | (unfold roomOK; simp [cutRows]; omega)) ?_; conv => whnf) | (refine AppG.mk (by first | omega | (unfold roomOK; simp [cutRows]; done) | (unfold roomOK; simp [cutRows]; omega)) ?_; conv => whnf) | (refine SliceG.fr ?_; conv => whnf) | fail)
  · have hk : 1 ≤ s.size ∧ s.size ≤ 40 := ⟨by omega, by omega⟩
    refine .mk _ _ (only_pc (s.extract 0 1) smalls (by rw [ByteArray.size_extract]; omega)) ?_
    conv => whnf
    repeat' (first | (refine Split.mk (fun h => ?_) (fun h => ?_) <;> (try simp only [decide_eq_true_eq, decide_eq_false_iff_not, Bool.not_eq_true', Bool.not_eq_false', beq_iff_eq, beq_eq_false_iff_ne] at h) <;> (first | (exfalso; first | omega | exact h trivial) | (conv => whnf))) | (refine CondG.mk (fun h => ?_) (fun h => ?_) <;> (try simp only [decide_eq_true_eq, decide_eq_false_iff_not, Bool.not_eq_true', Bool.not_eq_false', beq_iff_eq, beq_eq_false_iff_ne] at h) <;> (first | (exfalso; first | omega | exact h trivial) | (conv => whnf))) | (refine CallX.mk _ _ (by first | exact only_pc s keyChars (by omega)) ?_; conv => whnf) | (refine CallG.mk _ _ (by first | exact only_pc s keyChars (by omega)) ?_; conv => whnf) | (refine Ask.mk (by first | omega | (unfold roomOK; simp [cutRows]; done) | (unfold roomOK; simp [cutRows]; omega)) ?_; conv => whnf) | (refine AppG.mk (by first | omega | (unfold roomOK; simp [cutRows]; done) | (unfold roomOK; simp [cutRows]; omega)) ?_; conv => whnf) | (refine SliceG.fr ?_; conv => whnf) | fail)
    all_goals exact finb (by rw [← keyR_eq s hk]; simp_all)
  · exact finb (by rw [eq_comm, keyB, decide_eq_false_iff_not]; intro hh; have h1 := hh.1; have h2 := hh.2.1; omega)

def leB (a b : ByteArray) : Bool := Op.bytesLess a.toList b.toList || a.toList == b.toList
theorem drop_cons {α : Type} {l : List α} {k : Nat} (h : k < l.length) : l.drop k = l[k] :: l.drop (k + 1) := List.drop_eq_getElem_cons h

set_option maxRecDepth 100000 in
set_option maxHeartbeats 4000000 in
theorem first_pc (l : List Int) (hl : l.length ≤ 1000000) : PCp 83 [.c (.lst 1 (l.map encI))] [] (.c (.int .i64 (firstErr l))) [] := by
  have hlm : (l.map encI).length = l.length := List.length_map ..
  refine fn_sound (mt := mts) tab_fits tab_mixed Tryz.func83 (by rfl) (by kernel_rfl) (by kernel_rfl) Tryz.results83 (Nat.le_of_ble_eq_true (by kernel_rfl)) ?_
  conv => whnf
  refine loop_count (l.length) [] [5, 6, 7] (fun k (_ : Unit) => ⟨[(5, .c (.lst 1 (l.map encI))), (6, .c (.int .i64 (l.map encI).length)), (7, .c (.int .i64 k))], [], 0⟩) (fun k (_ : Unit) => firstErr (l.drop k) = firstErr l) (()) ?_ ?_ ?_
  · conv => whnf
    exact ⟨rfl, rfl⟩
  · intro k _ hk hi
    rw [drop_cons hk, firstErr] at hi
    conv => whnf
    repeat' (first | (refine Split.mk (fun h => ?_) (fun h => ?_) <;> (try simp only [decide_eq_true_eq, decide_eq_false_iff_not, Bool.not_eq_true', Bool.not_eq_false', beq_iff_eq, beq_eq_false_iff_ne] at h) <;> (first | (exfalso; first | omega | exact h trivial) | (conv => whnf))) | (refine CondG.mk (fun h => ?_) (fun h => ?_) <;> (try simp only [decide_eq_true_eq, decide_eq_false_iff_not, Bool.not_eq_true', Bool.not_eq_false', beq_iff_eq, beq_eq_false_iff_ne] at h) <;> (first | (exfalso; first | omega | exact h trivial) | (conv => whnf))) | (refine Ask.mk (by first | omega | (unfold roomOK; simp [cutRows]; done) | (unfold roomOK; simp [cutRows]; omega)) ?_; conv => whnf) | (refine AppG.mk (by first | omega | (unfold roomOK; simp [cutRows]; done) | (unfold roomOK; simp [cutRows]; omega)) ?_; conv => whnf) | (refine SliceG.fr ?_; conv => whnf) | fail)
    refine idx_map k hk rfl ?_
    conv => whnf
    repeat' (first | (refine Split.mk (fun h => ?_) (fun h => ?_) <;> (try simp only [decide_eq_true_eq, decide_eq_false_iff_not, Bool.not_eq_true', Bool.not_eq_false', beq_iff_eq, beq_eq_false_iff_ne] at h) <;> (first | (exfalso; first | omega | exact h trivial) | (conv => whnf))) | (refine CondG.mk (fun h => ?_) (fun h => ?_) <;> (try simp only [decide_eq_true_eq, decide_eq_false_iff_not, Bool.not_eq_true', Bool.not_eq_false', beq_iff_eq, beq_eq_false_iff_ne] at h) <;> (first | (exfalso; first | omega | exact h trivial) | (conv => whnf))) | (refine Ask.mk (by first | omega | (unfold roomOK; simp [cutRows]; done) | (unfold roomOK; simp [cutRows]; omega)) ?_; conv => whnf) | (refine AppG.mk (by first | omega | (unfold roomOK; simp [cutRows]; done) | (unfold roomOK; simp [cutRows]; omega)) ?_; conv => whnf) | (refine SliceG.fr ?_; conv => whnf) | fail)
    · exact fini (by rw [← hi, if_neg (by simpa using h)])
    · refine count_next () hk (by rw [wrap_succ hk (by omega)]; rfl) ?_
      rw [← hi, if_pos (by simpa using h)]
  · intro _ hi
    rw [List.drop_of_length_le (Nat.le_refl _)] at hi
    conv => whnf
    repeat' (first | (refine Split.mk (fun h => ?_) (fun h => ?_) <;> (try simp only [decide_eq_true_eq, decide_eq_false_iff_not, Bool.not_eq_true', Bool.not_eq_false', beq_iff_eq, beq_eq_false_iff_ne] at h) <;> (first | (exfalso; first | omega | exact h trivial) | (conv => whnf))) | (refine CondG.mk (fun h => ?_) (fun h => ?_) <;> (try simp only [decide_eq_true_eq, decide_eq_false_iff_not, Bool.not_eq_true', Bool.not_eq_false', beq_iff_eq, beq_eq_false_iff_ne] at h) <;> (first | (exfalso; first | omega | exact h trivial) | (conv => whnf))) | (refine Ask.mk (by first | omega | (unfold roomOK; simp [cutRows]; done) | (unfold roomOK; simp [cutRows]; omega)) ?_; conv => whnf) | (refine AppG.mk (by first | omega | (unfold roomOK; simp [cutRows]; done) | (unfold roomOK; simp [cutRows]; omega)) ?_; conv => whnf) | (refine SliceG.fr ?_; conv => whnf) | fail)
    exact fini (by rw [← hi]; rfl)
end Go.Proofs.YtllpjcgadfmipaaGreat

/- Sorting by insertion, lists without equal neighbours: as functions on lists. -/
namespace Go.Proofs.YtllpjcgadfmipaaGreat
set_option linter.unusedVariables false
set_option linter.unusedSimpArgs false
open Abs

def insDown {α : Type} (c : α → α → Int) (a : Nat) : Nat → List α → List α
  | 0, l => l
  | j + 1, l => if a < j + 1 then (match l[j + 1]?, l[j]? with | some x, some y => if c x y < 0 then insDown c a j ((l.set (j + 1) y).set j x) else l | _, _ => l) else l
def insTo {α : Type} (c : α → α → Int) (a : Nat) : Nat → List α → List α
  | 0, l => l
  | m + 1, l => insDown c a (a + 1 + m) (insTo c a m l)
/-- sorted by insertion -/
def insSort {α : Type} (c : α → α → Int) (l : List α) : List α := insTo c 0 (l.length - 1) l
theorem insDown_len {α : Type} (c : α → α → Int) (a : Nat) : ∀ (j : Nat) (l : List α), (insDown c a j l).length = l.length
  | 0, l => rfl
  | j + 1, l => by
    unfold insDown
    split
    · split
      · split
        · rw [insDown_len]; simp
        · rfl
      · rfl
    · rfl
theorem insTo_len {α : Type} (c : α → α → Int) (a : Nat) : ∀ (m : Nat) (l : List α), (insTo c a m l).length = l.length
  | 0, l => rfl
  | m + 1, l => by rw [insTo, insDown_len, insTo_len]
theorem insSort_len {α : Type} (c : α → α → Int) (l : List α) : (insSort c l).length = l.length := insTo_len ..
theorem swap_perm {α : Type} {l : List α} {j : Nat} {x y : α} (hx : l[j + 1]? = some x) (hy : l[j]? = some y) : ((l.set (j + 1) y).set j x).Perm l := by
  induction l generalizing j with
  | nil => simp at hx
  | cons a r ih =>
    cases j with
    | zero =>
      cases r with
      | nil => simp at hx
      | cons b r => simp at hx hy; subst hx hy; exact List.Perm.swap _ _ _
    | succ j => exact List.Perm.cons a (ih (by simpa using hx) (by simpa using hy))
theorem insDown_perm {α : Type} (c : α → α → Int) (a : Nat) : ∀ (j : Nat) (l : List α), (insDown c a j l).Perm l
  | 0, l => List.Perm.refl _
  | j + 1, l => by
    unfold insDown
    split
    · split
      · rename_i x y hx hy
        split
        · exact (insDown_perm c a j _).trans (swap_perm hx hy)
        · exact List.Perm.refl _
      · exact List.Perm.refl _
    · exact List.Perm.refl _
theorem insTo_perm {α : Type} (c : α → α → Int) (a : Nat) : ∀ (m : Nat) (l : List α), (insTo c a m l).Perm l
  | 0, l => List.Perm.refl _
  | m + 1, l => (insDown_perm c a _ _).trans (insTo_perm c a m l)
theorem insSort_perm {α : Type} (c : α → α → Int) (l : List α) : (insSort c l).Perm l := insTo_perm ..
theorem insDown_step {α : Type} {c : α → α → Int} {a j : Nat} {l : List α} (h : a < j + 1) (h1 : j + 1 < l.length) (hc : c l[j + 1] (l[j]'(by omega)) < 0) : insDown c a (j + 1) l = insDown c a j ((l.set (j + 1) (l[j]'(by omega))).set j l[j + 1]) := by
  rw [insDown, if_pos h, List.getElem?_eq_getElem h1, List.getElem?_eq_getElem (show j < l.length by omega)]
  simp only [if_pos hc]
theorem insDown_stop {α : Type} {c : α → α → Int} {a j : Nat} {l : List α} (h1 : j + 1 < l.length) (hc : ¬ c l[j + 1] (l[j]'(by omega)) < 0) : insDown c a (j + 1) l = l := by
  rw [insDown, List.getElem?_eq_getElem h1, List.getElem?_eq_getElem (show j < l.length by omega)]
  simp only [if_neg hc]
  split <;> rfl
theorem insDown_low {α : Type} {c : α → α → Int} {a j : Nat} {l : List α} (h : ¬ a < j) : insDown c a j l = l := by
  cases j with
  | zero => rfl
  | succ j => rw [insDown, if_neg h]
theorem row_at {α : Type} {enc : α → List V} {l : List α} {i : Nat} {k : List V → Prop} (j : Nat) (hi : i = j) (hj : j < l.length) (hk : k (enc l[j])) : RowG (l.map enc) i k := by subst hi; exact row_map hj hk
theorem toN {n : Nat} : ((n : Int)).toNat = n := Int.toNat_natCast n
/-! lists: of equal neighbours one alone -/
def cptA {α : Type} [DecidableEq α] : α → List α → List α
  | _, [] => []
  | a, b :: r => if b = a then cptA a r else b :: cptA b r
def cpt {α : Type} [DecidableEq α] : List α → List α
  | [] => []
  | a :: r => a :: cptA a r
theorem cptA_len {α : Type} [DecidableEq α] : ∀ (a : α) (l : List α), (cptA a l).length ≤ l.length
  | _, [] => Nat.le_refl _
  | a, b :: r => by
    unfold cptA
    split
    · have := cptA_len a r; simp; omega
    · have := cptA_len b r; simp; omega
theorem cpt_len {α : Type} [DecidableEq α] (l : List α) : (cpt l).length ≤ l.length := by
  cases l with
  | nil => exact Nat.le_refl _
  | cons a r => have := cptA_len a r; simp [cpt]; omega
theorem cptA_id {α : Type} [DecidableEq α] : ∀ (a : α) (r : List α), cptA a r = r ↔ ∀ i (h : i + 1 < (a :: r).length), (a :: r)[i + 1] ≠ (a :: r)[i]
  | a, [] => by simp [cptA]
  | a, b :: r => by
    unfold cptA
    split
    · rename_i e
      constructor
      · intro h
        have := cptA_len a r
        rw [h] at this; simp at this; omega
      · intro h; exact (h 0 (by simp) (by simpa using e)).elim
    · rename_i e
      rw [List.cons.injEq]
      constructor
      · rintro ⟨_, h⟩ i hi
        cases i with
        | zero => simpa using e
        | succ i => exact (cptA_id b r).1 h i (by simpa using hi)
      · intro h
        refine ⟨rfl, (cptA_id b r).2 fun i hi => ?_⟩
        have := h (i + 1) (by simpa using hi)
        simpa using this
theorem cpt_id {α : Type} [DecidableEq α] (l : List α) : cpt l = l ↔ ∀ i (h : i + 1 < l.length), l[i + 1] ≠ l[i] := by
  cases l with
  | nil => simp [cpt]
  | cons a r => rw [cpt, List.cons.injEq]; simp only [true_and]; exact cptA_id a r
/-- the first ones are kept, and then the rest is looked at -/
theorem cpt_from {α : Type} [DecidableEq α] : ∀ (l : List α) (k : Nat) (hk : k < l.length), (∀ i (h : i + 1 < l.length), i + 1 ≤ k → l[i + 1] ≠ l[i]) → cpt l = l.take (k + 1) ++ cptA l[k] (l.drop (k + 1))
  | [], k, hk, _ => by simp at hk
  | a :: r, 0, _, _ => by simp [cpt]
  | [a], k + 1, hk, _ => by simp at hk
  | a :: b :: r, k + 1, hk, h => by
    have h0 := h 0 (by simp) (by omega)
    have ih := cpt_from (b :: r) k (by simpa using hk) (fun i hi h1 => by have := h (i + 1) (by simpa using hi) (by omega); simpa using this)
    rw [cpt] at ih ⊢
    rw [cptA, if_neg (by simpa using h0), ih]
    simp
theorem mem_cptA {α : Type} [DecidableEq α] : ∀ {a : α} {r : List α} {x : α}, x ∈ cptA a r → x ∈ r
  | _, [], _, h => h
  | a, b :: r, x, h => by
    unfold cptA at h
    split at h
    · exact List.mem_cons_of_mem _ (mem_cptA h)
    · rcases List.mem_cons.1 h with h | h
      · rw [h]; exact List.mem_cons_self
      · exact List.mem_cons_of_mem _ (mem_cptA h)
theorem mem_cpt {α : Type} [DecidableEq α] {l : List α} {x : α} (h : x ∈ cpt l) : x ∈ l := by
  cases l with
  | nil => exact h
  | cons a r =>
    rcases List.mem_cons.1 h with h | h
    · rw [h]; exact List.mem_cons_self
    · exact List.mem_cons_of_mem _ (mem_cptA h)
theorem notT {b : Bool} (h : (!b) = true) : b = false := by cases b <;> simp_all
theorem notF {b : Bool} (h : (!b) = false) : b = true := by cases b <;> simp_all
theorem getElem_of_drop {α : Type} {q l : List α} {p i : Nat} (hd : q.drop p = l.drop p) (hpi : p ≤ i) (h1 : i < q.length) (h2 : i < l.length) : q[i] = l[i] := by
  have h3 := congrArg (fun r => r[i - p]?) hd
  simp only [List.getElem?_drop, show p + (i - p) = i by omega, List.getElem?_eq_getElem h1, List.getElem?_eq_getElem h2] at h3
  exact Option.some.inj h3
theorem drop_more {α : Type} {q l : List α} {p : Nat} (hd : q.drop p = l.drop p) : q.drop (p + 1) = l.drop (p + 1) := by
  rw [← List.drop_drop, ← List.drop_drop, hd]
theorem getDD {α : Type} {l : List α} {i : Nat} {d : α} (h : i < l.length) : l.getD i d = l[i] := by simp [h]
theorem cpt_same {α : Type} [DecidableEq α] {q l C : List α} {p j : Nat} {d : α} (hp : p + 1 < l.length) (hd : q.drop p = l.drop p) (hc : q.take j ++ cptA (l.getD p d) (l.drop (p + 1)) = C) (he : l[p + 1] = l[p]'(by omega)) :
    q.drop (p + 1) = l.drop (p + 1) ∧ q.take j ++ cptA (l.getD (p + 1) d) (l.drop (p + 1 + 1)) = C := by
  refine ⟨drop_more hd, ?_⟩
  rw [← hc, List.drop_eq_getElem_cons hp, cptA, getDD hp, getDD (show p < l.length by omega), if_pos he, he]
theorem cpt_new {α : Type} [DecidableEq α] {q l C : List α} {p j : Nat} {d : α} (hq : q.length = l.length) (hp : p + 1 < l.length) (hj : j ≤ p) (hd : q.drop p = l.drop p) (hc : q.take j ++ cptA (l.getD p d) (l.drop (p + 1)) = C) (he : ¬ l[p + 1] = l[p]'(by omega)) :
    (q.set j l[p + 1]).drop (p + 1) = l.drop (p + 1) ∧ (q.set j l[p + 1]).take (j + 1) ++ cptA (l.getD (p + 1) d) (l.drop (p + 1 + 1)) = C := by
  refine ⟨by rw [List.drop_set_of_lt (by omega)]; exact drop_more hd, ?_⟩
  rw [← hc, List.drop_eq_getElem_cons hp, cptA, getDD hp, getDD (show p < l.length by omega), if_neg he]
  have h1 : (q.set j l[p + 1]).take (j + 1) = q.take j ++ [l[p + 1]] := by
    rw [List.take_succ_eq_append_getElem (by simp; omega), List.take_set_of_le (Nat.le_refl _), List.getElem_set_self]
  rw [h1]
  simp
end Go.Proofs.YtllpjcgadfmipaaGreat

/- Plans: what is left on drums, by the abstract walk. -/
namespace Go.Proofs.YtllpjcgadfmipaaGreat
set_option linter.unusedVariables false
set_option linter.unusedSimpArgs false
open Abs

/-- the index of the first one for which something is so -/
def idxP {α : Type} (p : α → Bool) (l : List α) : Int := if l.any p then (l.findIdx p : Int) else -1
theorem idxP_hit {α : Type} {p : α → Bool} {l : List α} {k : Nat} (hk : k < l.length) (h : ∀ i (hi : i < k), p (l[i]'(by omega)) = false) (hp : p l[k] = true) : idxP p l = k := by
  have h1 : l.any p = true := List.any_eq_true.2 ⟨_, List.getElem_mem hk, hp⟩
  have h2 : l.findIdx p = k := by
    rw [List.findIdx_eq hk]
    exact ⟨hp, fun j hj => by simpa using h j hj⟩
  rw [idxP, if_pos h1, h2]
theorem idxP_miss {α : Type} {p : α → Bool} {l : List α} (h : ∀ i (hi : i < l.length), p l[i] = false) : idxP p l = -1 := by
  have h1 : ¬ l.any p = true := by
    rw [List.any_eq_true]
    rintro ⟨x, hx, hp⟩
    obtain ⟨i, hi, rfl⟩ := List.getElem_of_mem hx
    rw [h i hi] at hp; cases hp
  rw [idxP, if_neg h1]
theorem idxP_any {α : Type} (p : α → Bool) (l : List α) : decide (0 ≤ idxP p l) = l.any p := by
  unfold idxP
  cases l.any p <;> simp
end Go.Proofs.YtllpjcgadfmipaaGreat

/- What is left on drums after a plan, by the abstract walk. -/
namespace Go.Proofs.YtllpjcgadfmipaaGreat
set_option linter.unusedVariables false
set_option linter.unusedSimpArgs false
open Abs

theorem toList_inj {a b : ByteArray} (h : a.toList = b.toList) : a = b := by
  rw [ByteArray.toList_eq, ByteArray.toList_eq] at h
  exact ByteArray.ext (Array.toList_inj.1 h)
end Go.Proofs.YtllpjcgadfmipaaGreat

/- Waste of plans, and the document's answers, by the abstract walk. -/
namespace Go.Proofs.YtllpjcgadfmipaaGreat
set_option linter.unusedVariables false
set_option linter.unusedSimpArgs false
open Abs

/-! the document's answers -/
end Go.Proofs.YtllpjcgadfmipaaGreat

/- Rules and plans are made, lists compared. -/
namespace Go.Proofs.YtllpjcgadfmipaaGreat
set_option linter.unusedVariables false
set_option linter.unusedSimpArgs false
open Abs

end Go.Proofs.YtllpjcgadfmipaaGreat

/- Acts in a store, by the abstract walk. -/
namespace Go.Proofs.YtllpjcgadfmipaaGreat
set_option linter.unusedVariables false
set_option linter.unusedSimpArgs false
open Abs

structure Ac where
  mo : Int
  kd : Int
  drum : ByteArray
  ty : ByteArray
  of : ByteArray
  long : Int
def encAc (x : Ac) : List V := [.int .i64 x.mo, .int .i64 x.kd, .str x.drum, .str x.ty, .str x.of, .int .i64 x.long]
def momB (n : Int) : Bool := decide (0 ≤ n ∧ n ≤ 345686399999)
set_option maxRecDepth 100000 in
set_option maxHeartbeats 4000000 in
theorem bMoment_pc (n : Int) : PCp 128 [.c (.int .i64 n)] [] (.c (.bool (momB n))) [] := by
  refine fn_sound (mt := mts) tab_fits tab_mixed Tryz.func128 (by rfl) (by kernel_rfl) (by kernel_rfl) Tryz.results128 (Nat.le_of_ble_eq_true (by kernel_rfl)) ?_
  conv => whnf
  repeat' (first | (refine Split.mk (fun h => ?_) (fun h => ?_) <;> (try simp only [decide_eq_true_eq, decide_eq_false_iff_not, Bool.not_eq_true', Bool.not_eq_false', beq_iff_eq, beq_eq_false_iff_ne] at h) <;> (first | (exfalso; first | omega | exact h trivial) | (conv => whnf))) | (refine CondG.mk (fun h => ?_) (fun h => ?_) <;> (try simp only [decide_eq_true_eq, decide_eq_false_iff_not, Bool.not_eq_true', Bool.not_eq_false', beq_iff_eq, beq_eq_false_iff_ne] at h) <;> (first | (exfalso; first | omega | exact h trivial) | (conv => whnf))) | (refine CallX.mk _ _ (by first | exact bOut_pc _ _ _) ?_; conv => whnf) | (refine CallG.mk _ _ (by first | exact bOut_pc _ _ _) ?_; conv => whnf) | (refine Ask.mk (by first | omega | (unfold roomOK; simp [cutRows]; done) | (unfold roomOK; simp [cutRows]; omega)) ?_; conv => whnf) | (refine AppG.mk (by first | omega | (unfold roomOK; simp [cutRows]; done) | (unfold roomOK; simp [cutRows]; omega)) ?_; conv => whnf) | (refine SliceG.fr ?_; conv => whnf) | fail)
  exact finb (by unfold momB; rw [Bool.eq_iff_iff]; simp; try omega)
def actErr (x : Ac) : Int :=
  if !momB x.mo then 1 else if x.kd < 1 ∨ 4 < x.kd then 4
  else if !keyB x.drum || (x.kd == 1 && !keyB x.ty) || (x.kd == 3 && !keyB x.of) then 5
  else if x.kd ≠ 4 ∧ (x.long < 1 ∨ 200000 < x.long) then 1
  else if (x.kd ≠ 1 ∧ x.ty.toList ≠ (⟨#[]⟩ : ByteArray).toList) ∨ (x.kd ≠ 3 ∧ x.of.toList ≠ (⟨#[]⟩ : ByteArray).toList) ∨ (x.kd = 4 ∧ x.long ≠ 0) then 3 else 0
set_option maxRecDepth 100000 in
set_option maxHeartbeats 4000000 in
theorem dActFault_pc (x : Ac) : PCp 171 [.agg (encAc x)] [] (.c (.int .i64 (actErr x))) [] := by
  refine fn_sound (mt := mts) tab_fits tab_mixed Tryz.func171 (by rfl) (by kernel_rfl) (by kernel_rfl) Tryz.results171 (Nat.le_of_ble_eq_true (by kernel_rfl)) ?_
  conv => whnf
  repeat' (first | (refine Split.mk (fun h => ?_) (fun h => ?_) <;> (try simp only [decide_eq_true_eq, decide_eq_false_iff_not, Bool.not_eq_true', Bool.not_eq_false', beq_iff_eq, beq_eq_false_iff_ne] at h) <;> (first | (exfalso; first | omega | exact h trivial) | (conv => whnf))) | (refine CondG.mk (fun h => ?_) (fun h => ?_) <;> (try simp only [decide_eq_true_eq, decide_eq_false_iff_not, Bool.not_eq_true', Bool.not_eq_false', beq_iff_eq, beq_eq_false_iff_ne] at h) <;> (first | (exfalso; first | omega | exact h trivial) | (conv => whnf))) | (refine CallX.mk _ _ (by first | exact bMoment_pc _ | exact bOut_pc _ _ _ | exact bKey_pc _) ?_; conv => whnf) | (refine CallG.mk _ _ (by first | exact bMoment_pc _ | exact bOut_pc _ _ _ | exact bKey_pc _) ?_; conv => whnf) | (refine Ask.mk (by first | omega | (unfold roomOK; simp [cutRows]; done) | (unfold roomOK; simp [cutRows]; omega)) ?_; conv => whnf) | (refine AppG.mk (by first | omega | (unfold roomOK; simp [cutRows]; done) | (unfold roomOK; simp [cutRows]; omega)) ?_; conv => whnf) | (refine SliceG.fr ?_; conv => whnf) | fail)
  all_goals refine fini ?_
  all_goals unfold actErr
  all_goals generalize (⟨#[]⟩ : ByteArray).toList = nl at *
  all_goals simp_all
  all_goals omega
def cmpI (a b : Int) : Int := if a < b then -1 else if b < a then 1 else 0
set_option maxRecDepth 100000 in
set_option maxHeartbeats 4000000 in
theorem isNaNI_pc (a : Int) : PCp 196 [.c (.int .i64 a)] [] (.c (.bool false)) [] := by
  refine fn_sound (mt := mts) tab_fits tab_mixed Tryz.func196 (by rfl) (by kernel_rfl) (by kernel_rfl) Tryz.results196 (Nat.le_of_ble_eq_true (by kernel_rfl)) ?_
  conv => whnf
  exact finb (by simp)
set_option maxRecDepth 100000 in
set_option maxHeartbeats 4000000 in
theorem cmpI_pc (a b : Int) : PCp 158 [.c (.int .i64 a), .c (.int .i64 b)] [] (.c (.int .i64 (cmpI a b))) [] := by
  refine fn_sound (mt := mts) tab_fits tab_mixed Tryz.func158 (by rfl) (by kernel_rfl) (by kernel_rfl) Tryz.results158 (Nat.le_of_ble_eq_true (by kernel_rfl)) ?_
  conv => whnf
  repeat' (first | (refine Split.mk (fun h => ?_) (fun h => ?_) <;> (try simp only [decide_eq_true_eq, decide_eq_false_iff_not, Bool.not_eq_true', Bool.not_eq_false', beq_iff_eq, beq_eq_false_iff_ne] at h) <;> (first | (exfalso; first | omega | exact h trivial) | (conv => whnf))) | (refine CondG.mk (fun h => ?_) (fun h => ?_) <;> (try simp only [decide_eq_true_eq, decide_eq_false_iff_not, Bool.not_eq_true', Bool.not_eq_false', beq_iff_eq, beq_eq_false_iff_ne] at h) <;> (first | (exfalso; first | omega | exact h trivial) | (conv => whnf))) | (refine CallX.mk _ _ (by first | exact isNaNI_pc _) ?_; conv => whnf) | (refine CallG.mk _ _ (by first | exact isNaNI_pc _) ?_; conv => whnf) | (refine Ask.mk (by first | omega | (unfold roomOK; simp [cutRows]; done) | (unfold roomOK; simp [cutRows]; omega)) ?_; conv => whnf) | (refine AppG.mk (by first | omega | (unfold roomOK; simp [cutRows]; done) | (unfold roomOK; simp [cutRows]; omega)) ?_; conv => whnf) | (refine SliceG.fr ?_; conv => whnf) | fail)
  all_goals exact fini (by simp_all [cmpI] <;> omega)
set_option maxRecDepth 100000 in
set_option maxHeartbeats 4000000 in
theorem orI_pc (l : List Int) (hl : l.length ≤ 1000000) : PCp 219 [.c (.lst 1 (l.map encI))] [] (.c (.int .i64 (firstErr l))) [] := by
  have hlm : (l.map encI).length = l.length := List.length_map ..
  refine fn_sound (mt := mts) tab_fits tab_mixed Tryz.func219 (by rfl) (by kernel_rfl) (by kernel_rfl) Tryz.results219 (Nat.le_of_ble_eq_true (by kernel_rfl)) ?_
  conv => whnf
  refine loop_count (l.length) [] [3, 6, 7, 8] (fun k (_ : Unit) => ⟨[(3, .c (.int .i64 0)), (6, .c (.lst 1 (l.map encI))), (7, .c (.int .i64 (l.map encI).length)), (8, .c (.int .i64 k))], [], 0⟩) (fun k (_ : Unit) => firstErr (l.drop k) = firstErr l) (()) ?_ ?_ ?_
  · conv => whnf
    exact ⟨rfl, rfl⟩
  · intro k _ hk hi
    rw [drop_cons hk, firstErr] at hi
    conv => whnf
    repeat' (first | (refine Split.mk (fun h => ?_) (fun h => ?_) <;> (try simp only [decide_eq_true_eq, decide_eq_false_iff_not, Bool.not_eq_true', Bool.not_eq_false', beq_iff_eq, beq_eq_false_iff_ne] at h) <;> (first | (exfalso; first | omega | exact h trivial) | (conv => whnf))) | (refine CondG.mk (fun h => ?_) (fun h => ?_) <;> (try simp only [decide_eq_true_eq, decide_eq_false_iff_not, Bool.not_eq_true', Bool.not_eq_false', beq_iff_eq, beq_eq_false_iff_ne] at h) <;> (first | (exfalso; first | omega | exact h trivial) | (conv => whnf))) | (refine Ask.mk (by first | omega | (unfold roomOK; simp [cutRows]; done) | (unfold roomOK; simp [cutRows]; omega)) ?_; conv => whnf) | (refine AppG.mk (by first | omega | (unfold roomOK; simp [cutRows]; done) | (unfold roomOK; simp [cutRows]; omega)) ?_; conv => whnf) | (refine SliceG.fr ?_; conv => whnf) | fail)
    refine idx_map k hk rfl ?_
    conv => whnf
    repeat' (first | (refine Split.mk (fun h => ?_) (fun h => ?_) <;> (try simp only [decide_eq_true_eq, decide_eq_false_iff_not, Bool.not_eq_true', Bool.not_eq_false', beq_iff_eq, beq_eq_false_iff_ne] at h) <;> (first | (exfalso; first | omega | exact h trivial) | (conv => whnf))) | (refine CondG.mk (fun h => ?_) (fun h => ?_) <;> (try simp only [decide_eq_true_eq, decide_eq_false_iff_not, Bool.not_eq_true', Bool.not_eq_false', beq_iff_eq, beq_eq_false_iff_ne] at h) <;> (first | (exfalso; first | omega | exact h trivial) | (conv => whnf))) | (refine Ask.mk (by first | omega | (unfold roomOK; simp [cutRows]; done) | (unfold roomOK; simp [cutRows]; omega)) ?_; conv => whnf) | (refine AppG.mk (by first | omega | (unfold roomOK; simp [cutRows]; done) | (unfold roomOK; simp [cutRows]; omega)) ?_; conv => whnf) | (refine SliceG.fr ?_; conv => whnf) | fail)
    · exact fini (by rw [← hi, if_neg (by simpa using h)])
    · refine count_next () hk (by rw [wrap_succ hk (by omega)]; rfl) ?_
      rw [← hi, if_pos (by simpa using h)]
  · intro _ hi
    rw [List.drop_of_length_le (Nat.le_refl _)] at hi
    conv => whnf
    repeat' (first | (refine Split.mk (fun h => ?_) (fun h => ?_) <;> (try simp only [decide_eq_true_eq, decide_eq_false_iff_not, Bool.not_eq_true', Bool.not_eq_false', beq_iff_eq, beq_eq_false_iff_ne] at h) <;> (first | (exfalso; first | omega | exact h trivial) | (conv => whnf))) | (refine CondG.mk (fun h => ?_) (fun h => ?_) <;> (try simp only [decide_eq_true_eq, decide_eq_false_iff_not, Bool.not_eq_true', Bool.not_eq_false', beq_iff_eq, beq_eq_false_iff_ne] at h) <;> (first | (exfalso; first | omega | exact h trivial) | (conv => whnf))) | (refine Ask.mk (by first | omega | (unfold roomOK; simp [cutRows]; done) | (unfold roomOK; simp [cutRows]; omega)) ?_; conv => whnf) | (refine AppG.mk (by first | omega | (unfold roomOK; simp [cutRows]; done) | (unfold roomOK; simp [cutRows]; omega)) ?_; conv => whnf) | (refine SliceG.fr ?_; conv => whnf) | fail)
    exact fini (by rw [← hi]; rfl)
def timeC (a b : Ac) : Int := firstErr [cmpI a.mo b.mo, cmpS a.drum b.drum, cmpI a.kd b.kd, cmpS a.ty b.ty, cmpS a.of b.of, cmpI a.long b.long]
set_option maxRecDepth 100000 in
set_option maxHeartbeats 4000000 in
theorem byTime_pc (a b : Ac) : PCp 172 [.agg (encAc a), .agg (encAc b)] [] (.c (.int .i64 (timeC a b))) [] := by
  refine fn_sound (mt := mts) tab_fits tab_mixed Tryz.func172 (by rfl) (by kernel_rfl) (by kernel_rfl) Tryz.results172 (Nat.le_of_ble_eq_true (by kernel_rfl)) ?_
  conv => whnf
  repeat' (first | (refine Split.mk (fun h => ?_) (fun h => ?_) <;> (try simp only [decide_eq_true_eq, decide_eq_false_iff_not, Bool.not_eq_true', Bool.not_eq_false', beq_iff_eq, beq_eq_false_iff_ne] at h) <;> (first | (exfalso; first | omega | exact h trivial) | (conv => whnf))) | (refine CondG.mk (fun h => ?_) (fun h => ?_) <;> (try simp only [decide_eq_true_eq, decide_eq_false_iff_not, Bool.not_eq_true', Bool.not_eq_false', beq_iff_eq, beq_eq_false_iff_ne] at h) <;> (first | (exfalso; first | omega | exact h trivial) | (conv => whnf))) | (refine CallX.mk _ _ (by first | exact cmpI_pc _ _ | exact sCompare_pc _ _ | exact orI_pc [cmpI a.mo b.mo, cmpS a.drum b.drum, cmpI a.kd b.kd, cmpS a.ty b.ty, cmpS a.of b.of, cmpI a.long b.long] (by simp)) ?_; conv => whnf) | (refine CallG.mk _ _ (by first | exact cmpI_pc _ _ | exact sCompare_pc _ _ | exact orI_pc [cmpI a.mo b.mo, cmpS a.drum b.drum, cmpI a.kd b.kd, cmpS a.ty b.ty, cmpS a.of b.of, cmpI a.long b.long] (by simp)) ?_; conv => whnf) | (refine Ask.mk (by first | omega | (unfold roomOK; simp [cutRows]; done) | (unfold roomOK; simp [cutRows]; omega)) ?_; conv => whnf) | (refine AppG.mk (by first | omega | (unfold roomOK; simp [cutRows]; done) | (unfold roomOK; simp [cutRows]; omega)) ?_; conv => whnf) | (refine SliceG.fr ?_; conv => whnf) | fail)
  exact fini rfl
def badPrev (p : Option Ac) (x : Ac) : Bool := match p with | none => false | some y => decide (timeC x y ≤ 0)
def actsErr : Option Ac → List Ac → Int
  | _, [] => 0
  | p, x :: r => if actErr x ≠ 0 then actErr x else if badPrev p x = true then 7 else actsErr (some x) r
def prevAt (l : List Ac) (k : Nat) : Option Ac := if k = 0 then none else l[k - 1]?
def actsFault (l : List Ac) : Int := if 2000 < l.length then 2 else actsErr none l
set_option maxRecDepth 100000 in
set_option maxHeartbeats 4000000 in
theorem checkActs_pc (l : List Ac) : PCp 125 [.c (.lst 6 (l.map encAc))] [] (.c (.int .i64 (actsFault l))) [] := by
  have hlm : (l.map encAc).length = l.length := List.length_map ..
  refine fn_sound (mt := mts) tab_fits tab_mixed Tryz.func125 (by rfl) (by kernel_rfl) (by kernel_rfl) Tryz.results125 (Nat.le_of_ble_eq_true (by kernel_rfl)) ?_
  conv => whnf
  repeat' (first | (refine Split.mk (fun h => ?_) (fun h => ?_) <;> (try simp only [decide_eq_true_eq, decide_eq_false_iff_not, Bool.not_eq_true', Bool.not_eq_false', beq_iff_eq, beq_eq_false_iff_ne] at h) <;> (first | (exfalso; first | omega | exact h trivial) | (conv => whnf))) | (refine CondG.mk (fun h => ?_) (fun h => ?_) <;> (try simp only [decide_eq_true_eq, decide_eq_false_iff_not, Bool.not_eq_true', Bool.not_eq_false', beq_iff_eq, beq_eq_false_iff_ne] at h) <;> (first | (exfalso; first | omega | exact h trivial) | (conv => whnf))) | (refine Ask.mk (by first | omega | (unfold roomOK; simp [cutRows]; done) | (unfold roomOK; simp [cutRows]; omega)) ?_; conv => whnf) | (refine AppG.mk (by first | omega | (unfold roomOK; simp [cutRows]; done) | (unfold roomOK; simp [cutRows]; omega)) ?_; conv => whnf) | (refine SliceG.fr ?_; conv => whnf) | fail)
  · exact fini (by rw [actsFault, if_pos (by omega)])
  have hF : actsFault l = actsErr none l := by rw [actsFault, if_neg (by omega)]
  refine loop_count (l.length) [] [0, 9, 10, 11] (fun k (_ : Unit) => ⟨[(0, .c (.lst 6 (l.map encAc))), (9, .c (.lst 6 (l.map encAc))), (10, .c (.int .i64 (l.map encAc).length)), (11, .c (.int .i64 k))], [], 0⟩) (fun k (_ : Unit) => actsErr (prevAt l k) (l.drop k) = actsErr none l) (()) ?_ ?_ ?_
  · conv => whnf
    exact ⟨rfl, rfl⟩
  · intro k _ hk hi
    rw [drop_cons hk, actsErr] at hi
    have hp1 : prevAt l (k + 1) = some l[k] := by simp [prevAt, hk]
    conv => whnf
    repeat' (first | (refine Split.mk (fun h => ?_) (fun h => ?_) <;> (try simp only [decide_eq_true_eq, decide_eq_false_iff_not, Bool.not_eq_true', Bool.not_eq_false', beq_iff_eq, beq_eq_false_iff_ne] at h) <;> (first | (exfalso; first | omega | exact h trivial) | (conv => whnf))) | (refine CondG.mk (fun h => ?_) (fun h => ?_) <;> (try simp only [decide_eq_true_eq, decide_eq_false_iff_not, Bool.not_eq_true', Bool.not_eq_false', beq_iff_eq, beq_eq_false_iff_ne] at h) <;> (first | (exfalso; first | omega | exact h trivial) | (conv => whnf))) | (refine Ask.mk (by first | omega | (unfold roomOK; simp [cutRows]; done) | (unfold roomOK; simp [cutRows]; omega)) ?_; conv => whnf) | (refine AppG.mk (by first | omega | (unfold roomOK; simp [cutRows]; done) | (unfold roomOK; simp [cutRows]; omega)) ?_; conv => whnf) | (refine SliceG.fr ?_; conv => whnf) | fail)
    refine idx_map k hk rfl ?_
    conv => whnf
    repeat' (first | (refine Split.mk (fun h => ?_) (fun h => ?_) <;> (try simp only [decide_eq_true_eq, decide_eq_false_iff_not, Bool.not_eq_true', Bool.not_eq_false', beq_iff_eq, beq_eq_false_iff_ne] at h) <;> (first | (exfalso; first | omega | exact h trivial) | (conv => whnf))) | (refine CondG.mk (fun h => ?_) (fun h => ?_) <;> (try simp only [decide_eq_true_eq, decide_eq_false_iff_not, Bool.not_eq_true', Bool.not_eq_false', beq_iff_eq, beq_eq_false_iff_ne] at h) <;> (first | (exfalso; first | omega | exact h trivial) | (conv => whnf))) | (refine CallX.mk _ _ (by first | exact dActFault_pc _) ?_; conv => whnf) | (refine CallG.mk _ _ (by first | exact dActFault_pc _) ?_; conv => whnf) | (refine Ask.mk (by first | omega | (unfold roomOK; simp [cutRows]; done) | (unfold roomOK; simp [cutRows]; omega)) ?_; conv => whnf) | (refine AppG.mk (by first | omega | (unfold roomOK; simp [cutRows]; done) | (unfold roomOK; simp [cutRows]; omega)) ?_; conv => whnf) | (refine SliceG.fr ?_; conv => whnf) | fail)
    · have h' : actErr l[k] ≠ 0 := by simpa using h
      rw [if_pos h'] at hi
      exact fini (by rw [hF, ← hi])
    · rename_i h0
      have h' : ¬ actErr l[k] ≠ 0 := by simpa using h0
      rw [if_neg h'] at hi
      have hk1 : IntKind.i64.wrap ((k : Int) - 1) = ((k - 1 : Nat) : Int) := by rw [wrap_in (by omega) (by omega)]; omega
      have hp : prevAt l k = some (l[k - 1]'(by omega)) := by rw [prevAt, if_neg (by omega)]; exact List.getElem?_eq_getElem (by omega)
      rw [hp] at hi
      refine idx_map (k - 1) (by omega) hk1 ?_
      conv => whnf
      repeat' (first | (refine Split.mk (fun h => ?_) (fun h => ?_) <;> (try simp only [decide_eq_true_eq, decide_eq_false_iff_not, Bool.not_eq_true', Bool.not_eq_false', beq_iff_eq, beq_eq_false_iff_ne] at h) <;> (first | (exfalso; first | omega | exact h trivial) | (conv => whnf))) | (refine CondG.mk (fun h => ?_) (fun h => ?_) <;> (try simp only [decide_eq_true_eq, decide_eq_false_iff_not, Bool.not_eq_true', Bool.not_eq_false', beq_iff_eq, beq_eq_false_iff_ne] at h) <;> (first | (exfalso; first | omega | exact h trivial) | (conv => whnf))) | (refine CallX.mk _ _ (by first | exact byTime_pc _ _) ?_; conv => whnf) | (refine CallG.mk _ _ (by first | exact byTime_pc _ _) ?_; conv => whnf) | (refine Ask.mk (by first | omega | (unfold roomOK; simp [cutRows]; done) | (unfold roomOK; simp [cutRows]; omega)) ?_; conv => whnf) | (refine AppG.mk (by first | omega | (unfold roomOK; simp [cutRows]; done) | (unfold roomOK; simp [cutRows]; omega)) ?_; conv => whnf) | (refine SliceG.fr ?_; conv => whnf) | fail)
      · skip
        rw [if_pos (by simpa [badPrev] using h)] at hi
        exact fini (by rw [hF, ← hi])
      · skip
        rw [if_neg (by simpa [badPrev] using h)] at hi
        refine count_next () hk (by rw [wrap_succ hk (by omega)]; rfl) ?_
        rw [hp1]; exact hi
    · have h' : ¬ actErr l[k] ≠ 0 := by simp_all
      have h0 : k = 0 := by omega
      subst h0
      rw [if_neg h', if_neg (by simp [badPrev, prevAt])] at hi
      refine count_next () hk (by rw [wrap_succ hk (by omega)]; rfl) ?_
      rw [hp1]; exact hi
  · intro _ hi
    rw [List.drop_of_length_le (Nat.le_refl _)] at hi
    conv => whnf
    repeat' (first | (refine Split.mk (fun h => ?_) (fun h => ?_) <;> (try simp only [decide_eq_true_eq, decide_eq_false_iff_not, Bool.not_eq_true', Bool.not_eq_false', beq_iff_eq, beq_eq_false_iff_ne] at h) <;> (first | (exfalso; first | omega | exact h trivial) | (conv => whnf))) | (refine CondG.mk (fun h => ?_) (fun h => ?_) <;> (try simp only [decide_eq_true_eq, decide_eq_false_iff_not, Bool.not_eq_true', Bool.not_eq_false', beq_iff_eq, beq_eq_false_iff_ne] at h) <;> (first | (exfalso; first | omega | exact h trivial) | (conv => whnf))) | (refine Ask.mk (by first | omega | (unfold roomOK; simp [cutRows]; done) | (unfold roomOK; simp [cutRows]; omega)) ?_; conv => whnf) | (refine AppG.mk (by first | omega | (unfold roomOK; simp [cutRows]; done) | (unfold roomOK; simp [cutRows]; omega)) ?_; conv => whnf) | (refine SliceG.fr ?_; conv => whnf) | fail)
    exact fini (by rw [hF, ← hi]; rfl)

end Go.Proofs.YtllpjcgadfmipaaGreat

/- A store with one drum, by the abstract walk. -/
namespace Go.Proofs.YtllpjcgadfmipaaGreat
set_option linter.unusedVariables false
set_option linter.unusedSimpArgs false
open Abs

/-- a first drum comes -/
abbrev stBox : Ob := .box [.mp 1, .mp 2]
set_option maxRecDepth 100000 in
set_option maxHeartbeats 4000000 in
theorem take1_pc (x : Ac) (hk : x.kd = 1) : PCp 127 [.c (.ptr 0 0), .agg (encAc x)] [stBox, .map 0 [], .map 0 []] (.tup [.c (.str x.ty), .c (.int .i64 0)]) [stBox, .map 1 [(0, .c (.str x.drum), .agg [.str x.ty, .int .i64 x.long])], .map 1 [(0, .c (.str x.drum), .c (.str x.ty))]] := by
  refine fn_sound (mt := mts) tab_fits tab_mixed Tryz.func127 (by rfl) (by kernel_rfl) (by kernel_rfl) Tryz.results127 (Nat.le_of_ble_eq_true (by kernel_rfl)) ?_
  conv => whnf
  repeat (refine .mk _ _ (.inr ⟨rfl, rfl, rfl⟩) ?_; conv => whnf)
  repeat' (first | (refine Split.mk (fun h => ?_) (fun h => ?_) <;> (try simp only [decide_eq_true_eq, decide_eq_false_iff_not, Bool.not_eq_true', Bool.not_eq_false', beq_iff_eq, beq_eq_false_iff_ne] at h) <;> (first | (exfalso; first | omega | exact h trivial) | (conv => whnf))) | (refine CondG.mk (fun h => ?_) (fun h => ?_) <;> (try simp only [decide_eq_true_eq, decide_eq_false_iff_not, Bool.not_eq_true', Bool.not_eq_false', beq_iff_eq, beq_eq_false_iff_ne] at h) <;> (first | (exfalso; first | omega | exact h trivial) | (conv => whnf))) | (refine Ask.mk (by first | omega | (unfold roomOK; simp [cutRows]; done) | (unfold roomOK; simp [cutRows]; omega)) ?_; conv => whnf) | (refine AppG.mk (by first | omega | (unfold roomOK; simp [cutRows]; done) | (unfold roomOK; simp [cutRows]; omega)) ?_; conv => whnf) | (refine SliceG.fr ?_; conv => whnf) | fail)
  · cases h
  refine .mk _ _ _ _ (.inr ⟨rfl, rfl, rfl, rfl, rfl⟩) ?_
  conv => whnf
  refine .mk 0 0 _ _ ⟨rfl, rfl, by intro i hi; omega⟩ ?_
  conv => whnf
  refine .mk _ _ _ _ (.inr ⟨rfl, rfl, rfl, rfl, rfl⟩) ?_
  conv => whnf
  refine .mk 0 0 _ _ ⟨rfl, rfl, by intro i hi; omega⟩ ?_
  conv => whnf
  exact .mk ⟨rfl, rfl⟩
/-- a store with one drum -/
abbrev stOne (x : Ac) : List Ob := [stBox, .map 1 [(0, .c (.str x.drum), .agg [.str x.ty, .int .i64 x.long])], .map 1 [(0, .c (.str x.drum), .c (.str x.ty))]]
set_option maxRecDepth 100000 in
set_option maxHeartbeats 4000000 in
theorem at1_pc (x : Ac) (a b : Int) (s : ByteArray) : PCp 129 [.c (.ptr 0 0), .c (.int .i64 a), .c (.str s), .c (.int .i64 b)] (stOne x) (.tup []) (stOne x) := by
  refine fn_sound (mt := mts) tab_fits tab_mixed Tryz.func129 (by rfl) (by kernel_rfl) (by kernel_rfl) Tryz.results129 (Nat.le_of_ble_eq_true (by kernel_rfl)) ?_
  conv => whnf
  exact .mk ⟨rfl, rfl⟩
set_option maxRecDepth 100000 in
set_option maxHeartbeats 4000000 in
theorem follow1_pc (x : Ac) (hk : x.kd = 1) : PCp 72 [.c (.lst 6 [encAc x]), .c (.fn 129 [])] [] (.c (.ptr 0 0)) (stOne x) := by
  refine fn_sound (mt := mts) tab_fits tab_mixed Tryz.func72 (by rfl) (by kernel_rfl) (by kernel_rfl) Tryz.results72 (Nat.le_of_ble_eq_true (by kernel_rfl)) ?_
  conv => whnf
  refine .un 2 ?_
  conv => whnf
  repeat' (first | (refine Split.mk (fun h => ?_) (fun h => ?_) <;> (try simp only [decide_eq_true_eq, decide_eq_false_iff_not, Bool.not_eq_true', Bool.not_eq_false', beq_iff_eq, beq_eq_false_iff_ne] at h) <;> (first | (exfalso; first | omega | exact h trivial) | (conv => whnf))) | (refine CondG.mk (fun h => ?_) (fun h => ?_) <;> (try simp only [decide_eq_true_eq, decide_eq_false_iff_not, Bool.not_eq_true', Bool.not_eq_false', beq_iff_eq, beq_eq_false_iff_ne] at h) <;> (first | (exfalso; first | omega | exact h trivial) | (conv => whnf))) | (refine Ask.mk (by first | omega | (unfold roomOK; simp [cutRows]; done) | (unfold roomOK; simp [cutRows]; omega)) ?_; conv => whnf) | (refine AppG.mk (by first | omega | (unfold roomOK; simp [cutRows]; done) | (unfold roomOK; simp [cutRows]; omega)) ?_; conv => whnf) | (refine SliceG.fr ?_; conv => whnf) | fail)
  rotate_left
  · exact absurd h (by simp)
  refine .mk (encAc x) ⟨by simp, rfl⟩ ?_
  conv => whnf
  repeat' (first | (refine Split.mk (fun h => ?_) (fun h => ?_) <;> (try simp only [decide_eq_true_eq, decide_eq_false_iff_not, Bool.not_eq_true', Bool.not_eq_false', beq_iff_eq, beq_eq_false_iff_ne] at h) <;> (first | (exfalso; first | omega | exact h trivial) | (conv => whnf))) | (refine CondG.mk (fun h => ?_) (fun h => ?_) <;> (try simp only [decide_eq_true_eq, decide_eq_false_iff_not, Bool.not_eq_true', Bool.not_eq_false', beq_iff_eq, beq_eq_false_iff_ne] at h) <;> (first | (exfalso; first | omega | exact h trivial) | (conv => whnf))) | (refine CallX.mk _ _ (by first | exact take1_pc x hk | exact at1_pc x _ _ _) ?_; conv => whnf) | (refine CallG.mk _ _ (by first | exact take1_pc x hk | exact at1_pc x _ _ _) ?_; conv => whnf) | (refine Ask.mk (by first | omega | (unfold roomOK; simp [cutRows]; done) | (unfold roomOK; simp [cutRows]; omega)) ?_; conv => whnf) | (refine AppG.mk (by first | omega | (unfold roomOK; simp [cutRows]; done) | (unfold roomOK; simp [cutRows]; omega)) ?_; conv => whnf) | (refine SliceG.fr ?_; conv => whnf) | fail)
  · exact absurd h (by show ¬ ((1 : Int) < 1); decide)
  · exact .mk ⟨rfl, rfl⟩
set_option maxRecDepth 100000 in
set_option maxHeartbeats 4000000 in
theorem at_pc (x : Ac) (hk : x.kd = 1) (hx : actErr x = 0) (m : Int) (hm : x.mo ≤ m) (hmm : momB m = true) : PCp 75 [.c (.lst 6 [encAc x]), .c (.int .i64 m)] [] (.tup [.c (.ptr 0 0), .c (.int .i64 0)]) (stOne x) := by
  have hc : actsFault [x] = 0 := by simp [actsFault, actsErr, hx, badPrev]
  refine fn_sound (mt := mts) tab_fits tab_mixed Tryz.func75 (by rfl) (by kernel_rfl) (by kernel_rfl) Tryz.results75 (Nat.le_of_ble_eq_true (by kernel_rfl)) ?_
  conv => whnf
  repeat' (first | (refine Split.mk (fun h => ?_) (fun h => ?_) <;> (try simp only [decide_eq_true_eq, decide_eq_false_iff_not, Bool.not_eq_true', Bool.not_eq_false', beq_iff_eq, beq_eq_false_iff_ne] at h) <;> (first | (exfalso; first | omega | exact h trivial) | (conv => whnf))) | (refine CondG.mk (fun h => ?_) (fun h => ?_) <;> (try simp only [decide_eq_true_eq, decide_eq_false_iff_not, Bool.not_eq_true', Bool.not_eq_false', beq_iff_eq, beq_eq_false_iff_ne] at h) <;> (first | (exfalso; first | omega | exact h trivial) | (conv => whnf))) | (refine CallX.mk _ _ (by first | exact checkActs_pc [x] | exact bMoment_pc _) ?_; conv => whnf) | (refine CallG.mk _ _ (by first | exact checkActs_pc [x] | exact bMoment_pc _) ?_; conv => whnf) | (refine Ask.mk (by first | omega | (unfold roomOK; simp [cutRows]; done) | (unfold roomOK; simp [cutRows]; omega)) ?_; conv => whnf) | (refine AppG.mk (by first | omega | (unfold roomOK; simp [cutRows]; done) | (unfold roomOK; simp [cutRows]; omega)) ?_; conv => whnf) | (refine SliceG.fr ?_; conv => whnf) | fail)
  · rw [hc] at h; cases h
  · rw [hmm] at h; cases h
  refine .un 1 ?_
  conv => whnf
  repeat' (first | (refine Split.mk (fun h => ?_) (fun h => ?_) <;> (try simp only [decide_eq_true_eq, decide_eq_false_iff_not, Bool.not_eq_true', Bool.not_eq_false', beq_iff_eq, beq_eq_false_iff_ne] at h) <;> (first | (exfalso; first | omega | exact h trivial) | (conv => whnf))) | (refine CondG.mk (fun h => ?_) (fun h => ?_) <;> (try simp only [decide_eq_true_eq, decide_eq_false_iff_not, Bool.not_eq_true', Bool.not_eq_false', beq_iff_eq, beq_eq_false_iff_ne] at h) <;> (first | (exfalso; first | omega | exact h trivial) | (conv => whnf))) | (refine Ask.mk (by first | omega | (unfold roomOK; simp [cutRows]; done) | (unfold roomOK; simp [cutRows]; omega)) ?_; conv => whnf) | (refine AppG.mk (by first | omega | (unfold roomOK; simp [cutRows]; done) | (unfold roomOK; simp [cutRows]; omega)) ?_; conv => whnf) | (refine SliceG.fr ?_; conv => whnf) | fail)
  · refine .mk (encAc x) ⟨by show (0 : Int) ≤ 0; decide, rfl⟩ ?_
    conv => whnf
    repeat' (first | (refine Split.mk (fun h => ?_) (fun h => ?_) <;> (try simp only [decide_eq_true_eq, decide_eq_false_iff_not, Bool.not_eq_true', Bool.not_eq_false', beq_iff_eq, beq_eq_false_iff_ne] at h) <;> (first | (exfalso; first | omega | exact h trivial) | (conv => whnf))) | (refine CondG.mk (fun h => ?_) (fun h => ?_) <;> (try simp only [decide_eq_true_eq, decide_eq_false_iff_not, Bool.not_eq_true', Bool.not_eq_false', beq_iff_eq, beq_eq_false_iff_ne] at h) <;> (first | (exfalso; first | omega | exact h trivial) | (conv => whnf))) | (refine CallX.mk _ _ (by first | exact follow1_pc x hk) ?_; conv => whnf) | (refine CallG.mk _ _ (by first | exact follow1_pc x hk) ?_; conv => whnf) | (refine Ask.mk (by first | omega | (unfold roomOK; simp [cutRows]; done) | (unfold roomOK; simp [cutRows]; omega)) ?_; conv => whnf) | (refine AppG.mk (by first | omega | (unfold roomOK; simp [cutRows]; done) | (unfold roomOK; simp [cutRows]; omega)) ?_; conv => whnf) | (refine SliceG.fr ?_; conv => whnf) | fail)
    exact .mk ⟨rfl, rfl⟩
  · exact absurd (by simp) h

end Go.Proofs.YtllpjcgadfmipaaGreat

/- A list of one drum is sorted. -/
namespace Go.Proofs.YtllpjcgadfmipaaGreat
set_option linter.unusedVariables false
set_option linter.unusedSimpArgs false
open Abs

set_option maxRecDepth 100000 in
set_option maxHeartbeats 4000000 in
theorem len64_pc : PCp 182 [.c (.int .u64 1)] [] (.c (.int .i64 1)) [] := by
  refine fn_sound (mt := mts) tab_fits tab_mixed Tryz.func182 (by rfl) (by kernel_rfl) (by kernel_rfl) Tryz.results182 (Nat.le_of_ble_eq_true (by kernel_rfl)) ?_
  conv => whnf
  repeat' (first | (refine Split.mk (fun h => ?_) (fun h => ?_) <;> (try simp only [decide_eq_true_eq, decide_eq_false_iff_not, Bool.not_eq_true', Bool.not_eq_false', beq_iff_eq, beq_eq_false_iff_ne] at h) <;> (first | (exfalso; first | omega | exact h trivial) | (conv => whnf))) | (refine CondG.mk (fun h => ?_) (fun h => ?_) <;> (try simp only [decide_eq_true_eq, decide_eq_false_iff_not, Bool.not_eq_true', Bool.not_eq_false', beq_iff_eq, beq_eq_false_iff_ne] at h) <;> (first | (exfalso; first | omega | exact h trivial) | (conv => whnf))) | (refine Ask.mk (by first | omega | (unfold roomOK; simp [cutRows]; done) | (unfold roomOK; simp [cutRows]; omega)) ?_; conv => whnf) | (refine AppG.mk (by first | omega | (unfold roomOK; simp [cutRows]; done) | (unfold roomOK; simp [cutRows]; omega)) ?_; conv => whnf) | (refine SliceG.fr ?_; conv => whnf) | fail)
  all_goals first | (exfalso; revert h; decide) | skip
  refine .mk (by decide +kernel) ?_
  conv => whnf
  exact fini (by decide +kernel)
set_option maxRecDepth 100000 in
set_option maxHeartbeats 4000000 in
theorem len_pc : PCp 131 [.c (.int .u64 1)] [] (.c (.int .i64 1)) [] := by
  refine fn_sound (mt := mts) tab_fits tab_mixed Tryz.func131 (by rfl) (by kernel_rfl) (by kernel_rfl) Tryz.results131 (Nat.le_of_ble_eq_true (by kernel_rfl)) ?_
  conv => whnf
  repeat' (first | (refine Split.mk (fun h => ?_) (fun h => ?_) <;> (try simp only [decide_eq_true_eq, decide_eq_false_iff_not, Bool.not_eq_true', Bool.not_eq_false', beq_iff_eq, beq_eq_false_iff_ne] at h) <;> (first | (exfalso; first | omega | exact h trivial) | (conv => whnf))) | (refine CondG.mk (fun h => ?_) (fun h => ?_) <;> (try simp only [decide_eq_true_eq, decide_eq_false_iff_not, Bool.not_eq_true', Bool.not_eq_false', beq_iff_eq, beq_eq_false_iff_ne] at h) <;> (first | (exfalso; first | omega | exact h trivial) | (conv => whnf))) | (refine CallX.mk _ _ (by first | exact len64_pc) ?_; conv => whnf) | (refine CallG.mk _ _ (by first | exact len64_pc) ?_; conv => whnf) | (refine Ask.mk (by first | omega | (unfold roomOK; simp [cutRows]; done) | (unfold roomOK; simp [cutRows]; omega)) ?_; conv => whnf) | (refine AppG.mk (by first | omega | (unfold roomOK; simp [cutRows]; done) | (unfold roomOK; simp [cutRows]; omega)) ?_; conv => whnf) | (refine SliceG.fr ?_; conv => whnf) | fail)
  exact fini rfl
set_option maxRecDepth 100000 in
set_option maxHeartbeats 4000000 in
theorem ins1_pc (r : List V) (g : Nat) : PCp 173 [.c (.row 0), .c (.int .i64 0), .c (.int .i64 1), .c (.fn g [])] [.row 65 3 [r]] (.tup []) [.row 65 3 [r]] := by
  refine fn_sound (mt := mts) tab_fits tab_mixed Tryz.func173 (by rfl) (by kernel_rfl) (by kernel_rfl) Tryz.results173 (Nat.le_of_ble_eq_true (by kernel_rfl)) ?_
  conv => whnf
  refine .un 1 ?_
  conv => whnf
  repeat' (first | (refine Split.mk (fun h => ?_) (fun h => ?_) <;> (try simp only [decide_eq_true_eq, decide_eq_false_iff_not, Bool.not_eq_true', Bool.not_eq_false', beq_iff_eq, beq_eq_false_iff_ne] at h) <;> (first | (exfalso; first | omega | exact h trivial) | (conv => whnf))) | (refine CondG.mk (fun h => ?_) (fun h => ?_) <;> (try simp only [decide_eq_true_eq, decide_eq_false_iff_not, Bool.not_eq_true', Bool.not_eq_false', beq_iff_eq, beq_eq_false_iff_ne] at h) <;> (first | (exfalso; first | omega | exact h trivial) | (conv => whnf))) | (refine Ask.mk (by first | omega | (unfold roomOK; simp [cutRows]; done) | (unfold roomOK; simp [cutRows]; omega)) ?_; conv => whnf) | (refine AppG.mk (by first | omega | (unfold roomOK; simp [cutRows]; done) | (unfold roomOK; simp [cutRows]; omega)) ?_; conv => whnf) | (refine SliceG.fr ?_; conv => whnf) | fail)
  all_goals first | exact .mk ⟨rfl, rfl⟩ | (exfalso; revert h; decide)
set_option maxRecDepth 100000 in
set_option maxHeartbeats 4000000 in
theorem pdq1_pc (r : List V) (g : Nat) : PCp 130 [.c (.row 0), .c (.int .i64 0), .c (.int .i64 1), .c (.int .i64 1), .c (.fn g [])] [.row 65 3 [r]] (.tup []) [.row 65 3 [r]] := by
  refine fn_sound (mt := mts) tab_fits tab_mixed Tryz.func130 (by rfl) (by kernel_rfl) (by kernel_rfl) Tryz.results130 (Nat.le_of_ble_eq_true (by kernel_rfl)) ?_
  conv => whnf
  refine .un 1 ?_
  conv => whnf
  repeat' (first | (refine Split.mk (fun h => ?_) (fun h => ?_) <;> (try simp only [decide_eq_true_eq, decide_eq_false_iff_not, Bool.not_eq_true', Bool.not_eq_false', beq_iff_eq, beq_eq_false_iff_ne] at h) <;> (first | (exfalso; first | omega | exact h trivial) | (conv => whnf))) | (refine CondG.mk (fun h => ?_) (fun h => ?_) <;> (try simp only [decide_eq_true_eq, decide_eq_false_iff_not, Bool.not_eq_true', Bool.not_eq_false', beq_iff_eq, beq_eq_false_iff_ne] at h) <;> (first | (exfalso; first | omega | exact h trivial) | (conv => whnf))) | (refine CallX.mk _ _ (by first | exact ins1_pc _ _) ?_; conv => whnf) | (refine CallG.mk _ _ (by first | exact ins1_pc _ _) ?_; conv => whnf) | (refine Ask.mk (by first | omega | (unfold roomOK; simp [cutRows]; done) | (unfold roomOK; simp [cutRows]; omega)) ?_; conv => whnf) | (refine AppG.mk (by first | omega | (unfold roomOK; simp [cutRows]; done) | (unfold roomOK; simp [cutRows]; omega)) ?_; conv => whnf) | (refine SliceG.fr ?_; conv => whnf) | fail)
  all_goals first | exact .mk ⟨rfl, rfl⟩ | (exfalso; revert h; decide) | (exfalso; rename_i h2; revert h2; decide)
set_option maxRecDepth 100000 in
set_option maxHeartbeats 4000000 in
theorem sort1_pc (r : List V) (g : Nat) : PCp 76 [.c (.row 0), .c (.fn g [])] [.row 65 3 [r]] (.tup []) [.row 65 3 [r]] := by
  refine fn_sound (mt := mts) tab_fits tab_mixed Tryz.func76 (by rfl) (by kernel_rfl) (by kernel_rfl) Tryz.results76 (Nat.le_of_ble_eq_true (by kernel_rfl)) ?_
  conv => whnf
  repeat' (first | (refine Split.mk (fun h => ?_) (fun h => ?_) <;> (try simp only [decide_eq_true_eq, decide_eq_false_iff_not, Bool.not_eq_true', Bool.not_eq_false', beq_iff_eq, beq_eq_false_iff_ne] at h) <;> (first | (exfalso; first | omega | exact h trivial) | (conv => whnf))) | (refine CondG.mk (fun h => ?_) (fun h => ?_) <;> (try simp only [decide_eq_true_eq, decide_eq_false_iff_not, Bool.not_eq_true', Bool.not_eq_false', beq_iff_eq, beq_eq_false_iff_ne] at h) <;> (first | (exfalso; first | omega | exact h trivial) | (conv => whnf))) | (refine CallX.mk _ _ (by first | exact len_pc | exact pdq1_pc _ _) ?_; conv => whnf) | (refine CallG.mk _ _ (by first | exact len_pc | exact pdq1_pc _ _) ?_; conv => whnf) | (refine Ask.mk (by first | omega | (unfold roomOK; simp [cutRows]; done) | (unfold roomOK; simp [cutRows]; omega)) ?_; conv => whnf) | (refine AppG.mk (by first | omega | (unfold roomOK; simp [cutRows]; done) | (unfold roomOK; simp [cutRows]; omega)) ?_; conv => whnf) | (refine SliceG.fr ?_; conv => whnf) | fail)
  exact .mk ⟨rfl, rfl⟩
set_option maxRecDepth 100000 in
set_option maxHeartbeats 4000000 in
theorem stock_pc (x : Ac) (hk : x.kd = 1) (hx : actErr x = 0) (m : Int) (hm : x.mo ≤ m) (hmm : momB m = true) : PCp 32 [.c (.lst 6 [encAc x]), .c (.int .i64 m)] [] (.tup [.c (.row 0), .c (.int .i64 0)]) [.row 65 3 [[.str x.drum, .str x.ty, .int .i64 x.long]]] := by
  refine fn_sound (mt := mts) tab_fits tab_mixed Tryz.func32 (by rfl) (by kernel_rfl) (by kernel_rfl) Tryz.results32 (Nat.le_of_ble_eq_true (by kernel_rfl)) ?_
  conv => whnf
  repeat' (first | (refine Split.mk (fun h => ?_) (fun h => ?_) <;> (try simp only [decide_eq_true_eq, decide_eq_false_iff_not, Bool.not_eq_true', Bool.not_eq_false', beq_iff_eq, beq_eq_false_iff_ne] at h) <;> (first | (exfalso; first | omega | exact h trivial) | (conv => whnf))) | (refine CondG.mk (fun h => ?_) (fun h => ?_) <;> (try simp only [decide_eq_true_eq, decide_eq_false_iff_not, Bool.not_eq_true', Bool.not_eq_false', beq_iff_eq, beq_eq_false_iff_ne] at h) <;> (first | (exfalso; first | omega | exact h trivial) | (conv => whnf))) | (refine CallX.mk _ _ (by first | exact at_pc x hk hx m hm hmm) ?_; conv => whnf) | (refine CallG.mk _ _ (by first | exact at_pc x hk hx m hm hmm) ?_; conv => whnf) | (refine Ask.mk (by first | omega | (unfold roomOK; simp [cutRows]; done) | (unfold roomOK; simp [cutRows]; omega)) ?_; conv => whnf) | (refine AppG.mk (by first | omega | (unfold roomOK; simp [cutRows]; done) | (unfold roomOK; simp [cutRows]; omega)) ?_; conv => whnf) | (refine SliceG.fr ?_; conv => whnf) | fail)
  · cases h
  refine .un 2 ?_
  conv => whnf
  refine .mk rfl ?_
  conv => whnf
  refine .mk (α := Nat × S × S) (fun e => e) [(0, .c (.str x.drum), .agg [.str x.ty, .int .i64 x.long])] rfl (by intro h; cases h) ?_
  intro e he
  simp only [List.mem_singleton] at he
  subst he
  conv => whnf
  repeat' (first | (refine Split.mk (fun h => ?_) (fun h => ?_) <;> (try simp only [decide_eq_true_eq, decide_eq_false_iff_not, Bool.not_eq_true', Bool.not_eq_false', beq_iff_eq, beq_eq_false_iff_ne] at h) <;> (first | (exfalso; first | omega | exact h trivial) | (conv => whnf))) | (refine CondG.mk (fun h => ?_) (fun h => ?_) <;> (try simp only [decide_eq_true_eq, decide_eq_false_iff_not, Bool.not_eq_true', Bool.not_eq_false', beq_iff_eq, beq_eq_false_iff_ne] at h) <;> (first | (exfalso; first | omega | exact h trivial) | (conv => whnf))) | (refine Ask.mk (by first | omega | (unfold roomOK; simp [cutRows]; done) | (unfold roomOK; simp [cutRows]; omega)) ?_; conv => whnf) | (refine AppG.mk (by first | omega | (unfold roomOK; simp [cutRows]; done) | (unfold roomOK; simp [cutRows]; omega)) ?_; conv => whnf) | (refine SliceG.fr ?_; conv => whnf) | fail)
  refine .mk _ _ rfl ?_
  conv => whnf
  repeat' (first | (refine Split.mk (fun h => ?_) (fun h => ?_) <;> (try simp only [decide_eq_true_eq, decide_eq_false_iff_not, Bool.not_eq_true', Bool.not_eq_false', beq_iff_eq, beq_eq_false_iff_ne] at h) <;> (first | (exfalso; first | omega | exact h trivial) | (conv => whnf))) | (refine CondG.mk (fun h => ?_) (fun h => ?_) <;> (try simp only [decide_eq_true_eq, decide_eq_false_iff_not, Bool.not_eq_true', Bool.not_eq_false', beq_iff_eq, beq_eq_false_iff_ne] at h) <;> (first | (exfalso; first | omega | exact h trivial) | (conv => whnf))) | (refine Ask.mk (by first | omega | (unfold roomOK; simp [cutRows]; done) | (unfold roomOK; simp [cutRows]; omega)) ?_; conv => whnf) | (refine AppG.mk (by first | omega | (unfold roomOK; simp [cutRows]; done) | (unfold roomOK; simp [cutRows]; omega)) ?_; conv => whnf) | (refine SliceG.fr ?_; conv => whnf) | fail)
  refine .mk (α := Nat × S × S) (fun e => e) [] rfl (fun _ => ?_) (by intro e he; cases he)
  conv => whnf
  repeat' (first | (refine Split.mk (fun h => ?_) (fun h => ?_) <;> (try simp only [decide_eq_true_eq, decide_eq_false_iff_not, Bool.not_eq_true', Bool.not_eq_false', beq_iff_eq, beq_eq_false_iff_ne] at h) <;> (first | (exfalso; first | omega | exact h trivial) | (conv => whnf))) | (refine CondG.mk (fun h => ?_) (fun h => ?_) <;> (try simp only [decide_eq_true_eq, decide_eq_false_iff_not, Bool.not_eq_true', Bool.not_eq_false', beq_iff_eq, beq_eq_false_iff_ne] at h) <;> (first | (exfalso; first | omega | exact h trivial) | (conv => whnf))) | (refine CallX.mk _ _ (by first | exact sort1_pc _ _) ?_; conv => whnf) | (refine CallG.mk _ _ (by first | exact sort1_pc _ _) ?_; conv => whnf) | (refine Ask.mk (by first | omega | (unfold roomOK; simp [cutRows]; done) | (unfold roomOK; simp [cutRows]; omega)) ?_; conv => whnf) | (refine AppG.mk (by first | omega | (unfold roomOK; simp [cutRows]; done) | (unfold roomOK; simp [cutRows]; omega)) ?_; conv => whnf) | (refine SliceG.fr ?_; conv => whnf) | fail)
  exact .mk ⟨rfl, rfl⟩
end Go.Proofs.YtllpjcgadfmipaaGreat

/- The law PlansWeighed, by the abstract walk. -/
namespace Go.Proofs.YtllpjcgadfmipaaGreat
set_option linter.unusedVariables false
set_option linter.unusedSimpArgs false
open Abs

end Go.Proofs.YtllpjcgadfmipaaGreat

/- Lists of acts are sorted. -/
namespace Go.Proofs.YtllpjcgadfmipaaGreat
set_option linter.unusedVariables false
set_option linter.unusedSimpArgs false
open Abs

set_option maxRecDepth 100000 in
set_option maxHeartbeats 4000000 in
theorem insAct_pc  (g : Nat) (c : Ac → Ac → Int) (hg : ∀ x y : Ac, PCp g [.agg (encAc x), .agg (encAc y)] [] (.c (.int .i64 (c x y))) []) (a b : Nat) (l : List Ac) (ha : a ≤ l.length) (hb : b ≤ l.length) (hl : l.length ≤ 1000000000) :
    PCp 217 [.c (.row 0), .c (.int .i64 a), .c (.int .i64 b), .c (.fn g [])] [.row 105 6 (l.map encAc)] (.tup []) [.row 105 6 ((insTo c a (b - (a + 1)) l).map encAc)] := by
  have hw : IntKind.i64.wrap ((a : Int) + 1) = ((a + 1 : Nat) : Int) := by rw [wrap_in (by omega) (by omega)]; rfl
  refine fn_sound (mt := mts) tab_fits tab_mixed Tryz.func217 (by rfl) (by kernel_rfl) (by kernel_rfl) Tryz.results217 (Nat.le_of_ble_eq_true (by kernel_rfl)) ?_
  conv => whnf
  rw [hw]
  refine loop_count (b - (a + 1)) [] [0, 1, 2, 3, 8] (fun k (_ : Unit) => ⟨[(0, .c (.row 0)), (1, .c (.int .i64 a)), (2, .c (.int .i64 b)), (3, .c (.fn g [])), (8, .c (.int .i64 ((a + 1 + k : Nat) : Int)))], [(0, .row 105 6 ((insTo c a k l).map encAc))], 1⟩) (fun k (_ : Unit) => True) (()) ?_ ?_ ?_
  · conv => whnf
    exact ⟨rfl, trivial⟩
  · intro k _ hk _
    have hlen := insTo_len c a k l
    conv => whnf
    refine .mk (fun h => ?_) (fun h => ?_)
    rotate_left
    · simp at h; omega
    conv => whnf
    refine loop_meas2 (fun (j : Nat) (q : List Ac) => j) [] [0, 1, 2, 3, 8, 9] (fun (j : Nat) (q : List Ac) => ⟨[(0, .c (.row 0)), (1, .c (.int .i64 a)), (2, .c (.int .i64 b)), (3, .c (.fn g [])), (8, .c (.int .i64 ((a + 1 + k : Nat) : Int))), (9, .c (.int .i64 ((j : Nat) : Int)))], [(0, .row 105 6 (q.map encAc))], 1⟩) (fun (j : Nat) (q : List Ac) => insDown c a j q = insTo c a (k + 1) l ∧ j < l.length ∧ q.length = l.length) (a + 1 + k) (insTo c a k l) ?_ ?_
    · conv => whnf
      exact ⟨rfl, rfl, by omega, by omega⟩
    · intro j q ⟨h1, h2, h3⟩
      conv => whnf
      repeat' (first | (refine Split.mk (fun h => ?_) (fun h => ?_) <;> (try simp only [decide_eq_true_eq, decide_eq_false_iff_not, Bool.not_eq_true', Bool.not_eq_false', beq_iff_eq, beq_eq_false_iff_ne] at h) <;> (first | (exfalso; first | omega | exact h trivial) | (conv => whnf))) | (refine CondG.mk (fun h => ?_) (fun h => ?_) <;> (try simp only [decide_eq_true_eq, decide_eq_false_iff_not, Bool.not_eq_true', Bool.not_eq_false', beq_iff_eq, beq_eq_false_iff_ne] at h) <;> (first | (exfalso; first | omega | exact h trivial) | (conv => whnf))) | (refine Ask.mk (by first | omega | (unfold roomOK; simp [cutRows]; done) | (unfold roomOK; simp [cutRows]; omega)) ?_; conv => whnf) | (refine AppG.mk (by first | omega | (unfold roomOK; simp [cutRows]; done) | (unfold roomOK; simp [cutRows]; omega)) ?_; conv => whnf) | (refine SliceG.fr ?_; conv => whnf) | fail)
      · -- one more to the left?
        obtain ⟨i, rfl⟩ : ∃ i, j = i + 1 := ⟨j - 1, by omega⟩
        have hw2 : IntKind.i64.wrap (((i + 1 : Nat) : Int) - 1) = ((i : Nat) : Int) := by rw [wrap_in (by omega) (by omega)]; omega
        refine .mk (by rw [List.length_map]; omega) ?_
        conv => whnf
        refine row_at (i + 1) toN (by omega) ?_
        conv => whnf
        rw [hw2]
        refine .mk (by rw [List.length_map]; omega) ?_
        conv => whnf
        refine row_at i toN (by omega) ?_
        conv => whnf
        repeat' (first | (refine Split.mk (fun h => ?_) (fun h => ?_) <;> (try simp only [decide_eq_true_eq, decide_eq_false_iff_not, Bool.not_eq_true', Bool.not_eq_false', beq_iff_eq, beq_eq_false_iff_ne] at h) <;> (first | (exfalso; first | omega | exact h trivial) | (conv => whnf))) | (refine CondG.mk (fun h => ?_) (fun h => ?_) <;> (try simp only [decide_eq_true_eq, decide_eq_false_iff_not, Bool.not_eq_true', Bool.not_eq_false', beq_iff_eq, beq_eq_false_iff_ne] at h) <;> (first | (exfalso; first | omega | exact h trivial) | (conv => whnf))) | (refine CallX.mk _ _ (by first | exact hg _ _) ?_; conv => whnf) | (refine CallG.mk _ _ (by first | exact hg _ _) ?_; conv => whnf) | (refine Ask.mk (by first | omega | (unfold roomOK; simp [cutRows]; done) | (unfold roomOK; simp [cutRows]; omega)) ?_; conv => whnf) | (refine AppG.mk (by first | omega | (unfold roomOK; simp [cutRows]; done) | (unfold roomOK; simp [cutRows]; omega)) ?_; conv => whnf) | (refine SliceG.fr ?_; conv => whnf) | fail)
        · rw [insDown_step (by omega) (by omega) h] at h1
          repeat' (first | (refine Split.mk (fun h => ?_) (fun h => ?_) <;> (try simp only [decide_eq_true_eq, decide_eq_false_iff_not, Bool.not_eq_true', Bool.not_eq_false', beq_iff_eq, beq_eq_false_iff_ne] at h) <;> (first | (exfalso; first | omega | exact h trivial) | (conv => whnf))) | (refine CondG.mk (fun h => ?_) (fun h => ?_) <;> (try simp only [decide_eq_true_eq, decide_eq_false_iff_not, Bool.not_eq_true', Bool.not_eq_false', beq_iff_eq, beq_eq_false_iff_ne] at h) <;> (first | (exfalso; first | omega | exact h trivial) | (conv => whnf))) | (refine Ask.mk (by first | omega | (unfold roomOK; simp [cutRows]; done) | (unfold roomOK; simp [cutRows]; omega)) ?_; conv => whnf) | (refine AppG.mk (by first | omega | (unfold roomOK; simp [cutRows]; done) | (unfold roomOK; simp [cutRows]; omega)) ?_; conv => whnf) | (refine SliceG.fr ?_; conv => whnf) | fail)
          rw [hw2]
          refine .mk (by rw [List.length_map]; omega) ?_
          conv => whnf
          refine row_at i toN (by omega) ?_
          conv => whnf
          refine .mk (by rw [List.length_map]; omega) ?_
          conv => whnf
          refine row_at (i + 1) toN (by omega) ?_
          conv => whnf
          refine .mk (by rw [List.length_map]; omega) ?_
          conv => whnf
          refine row_at (i + 1) toN (by omega) ?_
          conv => whnf
          refine .mk (by rw [List.length_set, List.length_map]; omega) ?_
          conv => whnf
          refine .mk (encAc (q[i]'(by omega))) (by rw [toN, toN, List.getElem?_set_ne (by omega)]; simp [show i < q.length by omega]) ?_
          conv => whnf
          refine meas_next (i, (q.set (i + 1) (q[i]'(by omega))).set i (q[i + 1]'(by omega))) (by simp only; omega) (by rw [toN, toN, hw2]; simp only [List.map_set]; rfl) ⟨h1, by simp only; omega, by simp [h3]⟩
        · rw [insDown_stop (by omega) h] at h1
          conv => whnf
          refine count_next () hk (by rw [h1, show IntKind.i64.wrap (((a + 1 + k : Nat) : Int) + 1) = ((a + 1 + (k + 1) : Nat) : Int) by rw [wrap_in (by omega) (by omega)]; omega]; rfl) trivial
      · rw [insDown_low (by omega)] at h1
        refine count_next () hk (by rw [h1, show IntKind.i64.wrap (((a + 1 + k : Nat) : Int) + 1) = ((a + 1 + (k + 1) : Nat) : Int) by rw [wrap_in (by omega) (by omega)]; omega]; rfl) trivial
  · intro _ _
    have hlen := insTo_len c a (b - (a + 1)) l
    conv => whnf
    repeat' (first | (refine Split.mk (fun h => ?_) (fun h => ?_) <;> (try simp only [decide_eq_true_eq, decide_eq_false_iff_not, Bool.not_eq_true', Bool.not_eq_false', beq_iff_eq, beq_eq_false_iff_ne] at h) <;> (first | (exfalso; first | omega | exact h trivial) | (conv => whnf))) | (refine CondG.mk (fun h => ?_) (fun h => ?_) <;> (try simp only [decide_eq_true_eq, decide_eq_false_iff_not, Bool.not_eq_true', Bool.not_eq_false', beq_iff_eq, beq_eq_false_iff_ne] at h) <;> (first | (exfalso; first | omega | exact h trivial) | (conv => whnf))) | (refine Ask.mk (by first | omega | (unfold roomOK; simp [cutRows]; done) | (unfold roomOK; simp [cutRows]; omega)) ?_; conv => whnf) | (refine AppG.mk (by first | omega | (unfold roomOK; simp [cutRows]; done) | (unfold roomOK; simp [cutRows]; omega)) ?_; conv => whnf) | (refine SliceG.fr ?_; conv => whnf) | fail)
    exact .mk ⟨rfl, rfl⟩
set_option maxRecDepth 100000 in
set_option maxHeartbeats 4000000 in
theorem stAct_pc  (g : Nat) (c : Ac → Ac → Int) (hg : ∀ x y : Ac, PCp g [.agg (encAc x), .agg (encAc y)] [] (.c (.int .i64 (c x y))) []) (l : List Ac) (hl : l.length < 20) :
    PCp 121 [.c (.row 0), .c (.fn g [])] [.row 105 6 (l.map encAc)] (.tup []) [.row 105 6 ((insSort c l).map encAc)] := by
  have hlm : (l.map encAc).length = l.length := List.length_map ..
  have hst : PCp 168 [.c (.row 0), .c (.int .i64 l.length), .c (.fn g [])] [.row 105 6 (l.map encAc)] (.tup []) [.row 105 6 ((insSort c l).map encAc)] := by
    refine fn_sound (mt := mts) tab_fits tab_mixed Tryz.func168 (by rfl) (by kernel_rfl) (by kernel_rfl) Tryz.results168 (Nat.le_of_ble_eq_true (by kernel_rfl)) ?_
    conv => whnf
    refine .un 1 ?_
    conv => whnf
    repeat' (first | (refine Split.mk (fun h => ?_) (fun h => ?_) <;> (try simp only [decide_eq_true_eq, decide_eq_false_iff_not, Bool.not_eq_true', Bool.not_eq_false', beq_iff_eq, beq_eq_false_iff_ne] at h) <;> (first | (exfalso; first | omega | exact h trivial) | (conv => whnf))) | (refine CondG.mk (fun h => ?_) (fun h => ?_) <;> (try simp only [decide_eq_true_eq, decide_eq_false_iff_not, Bool.not_eq_true', Bool.not_eq_false', beq_iff_eq, beq_eq_false_iff_ne] at h) <;> (first | (exfalso; first | omega | exact h trivial) | (conv => whnf))) | (refine Ask.mk (by first | omega | (unfold roomOK; simp [cutRows]; done) | (unfold roomOK; simp [cutRows]; omega)) ?_; conv => whnf) | (refine AppG.mk (by first | omega | (unfold roomOK; simp [cutRows]; done) | (unfold roomOK; simp [cutRows]; omega)) ?_; conv => whnf) | (refine SliceG.fr ?_; conv => whnf) | fail)
    refine .mk _ _ (insAct_pc g c hg 0 l.length l (Nat.zero_le _) (Nat.le_refl _) (by omega)) ?_
    conv => whnf
    refine .un 1 ?_
    conv => whnf
    repeat' (first | (refine Split.mk (fun h => ?_) (fun h => ?_) <;> (try simp only [decide_eq_true_eq, decide_eq_false_iff_not, Bool.not_eq_true', Bool.not_eq_false', beq_iff_eq, beq_eq_false_iff_ne] at h) <;> (first | (exfalso; first | omega | exact h trivial) | (conv => whnf))) | (refine CondG.mk (fun h => ?_) (fun h => ?_) <;> (try simp only [decide_eq_true_eq, decide_eq_false_iff_not, Bool.not_eq_true', Bool.not_eq_false', beq_iff_eq, beq_eq_false_iff_ne] at h) <;> (first | (exfalso; first | omega | exact h trivial) | (conv => whnf))) | (refine Ask.mk (by first | omega | (unfold roomOK; simp [cutRows]; done) | (unfold roomOK; simp [cutRows]; omega)) ?_; conv => whnf) | (refine AppG.mk (by first | omega | (unfold roomOK; simp [cutRows]; done) | (unfold roomOK; simp [cutRows]; omega)) ?_; conv => whnf) | (refine SliceG.fr ?_; conv => whnf) | fail)
    exact .mk ⟨rfl, rfl⟩
  refine fn_sound (mt := mts) tab_fits tab_mixed Tryz.func121 (by rfl) (by kernel_rfl) (by kernel_rfl) Tryz.results121 (Nat.le_of_ble_eq_true (by kernel_rfl)) ?_
  conv => whnf
  rw [hlm]
  repeat' (first | (refine Split.mk (fun h => ?_) (fun h => ?_) <;> (try simp only [decide_eq_true_eq, decide_eq_false_iff_not, Bool.not_eq_true', Bool.not_eq_false', beq_iff_eq, beq_eq_false_iff_ne] at h) <;> (first | (exfalso; first | omega | exact h trivial) | (conv => whnf))) | (refine CondG.mk (fun h => ?_) (fun h => ?_) <;> (try simp only [decide_eq_true_eq, decide_eq_false_iff_not, Bool.not_eq_true', Bool.not_eq_false', beq_iff_eq, beq_eq_false_iff_ne] at h) <;> (first | (exfalso; first | omega | exact h trivial) | (conv => whnf))) | (refine CallX.mk _ _ (by first | exact hst) ?_; conv => whnf) | (refine CallG.mk _ _ (by first | exact hst) ?_; conv => whnf) | (refine Ask.mk (by first | omega | (unfold roomOK; simp [cutRows]; done) | (unfold roomOK; simp [cutRows]; omega)) ?_; conv => whnf) | (refine AppG.mk (by first | omega | (unfold roomOK; simp [cutRows]; done) | (unfold roomOK; simp [cutRows]; omega)) ?_; conv => whnf) | (refine SliceG.fr ?_; conv => whnf) | fail)
  exact .mk ⟨rfl, rfl⟩
/-! the length of a small number -/
deriving instance DecidableEq for Ac
theorem eqAc {x y : Ac} : (x.mo == y.mo && (x.kd == y.kd && (x.drum.toList == y.drum.toList && (x.ty.toList == y.ty.toList && (x.of.toList == y.of.toList && x.long == y.long))))) = true ↔ x = y := by
  obtain ⟨a1, a2, a3, a4, a5, a6⟩ := x
  obtain ⟨b1, b2, b3, b4, b5, b6⟩ := y
  simp only [Bool.and_eq_true, beq_iff_eq, Ac.mk.injEq]
  have hs : ∀ {s t : ByteArray}, s.toList = t.toList ↔ s = t := fun {s t} => ⟨toList_inj, fun h => by rw [h]⟩
  rw [hs, hs, hs]
set_option maxRecDepth 100000 in
set_option maxHeartbeats 4000000 in
theorem cptAc_pc (l : List Ac) (hl : l.length ≤ 1000000000) :
    ∃ ob, ((∃ rows, ob = .frow 6 rows) ∨ ob = .dead) ∧ PCp 123 [.c (.row 0)] [.row 105 6 (l.map encAc)] (.c (.lst 6 ((cpt l).map encAc))) [ob] := by
  have hlm : (l.map encAc).length = l.length := List.length_map ..
  by_cases hid : cpt l = l
  · refine ⟨.frow 6 (l.map encAc), .inl ⟨_, rfl⟩, ?_⟩
    rw [hid]
    rw [cpt_id] at hid
    have hfr : ∀ (m : Nat) (r : List Ac), FinR 1 (.c (.lst 6 (r.map encAc))) [.frow 6 (r.map encAc)] (.c (.row 0)) [.row 105 6 (r.map encAc)] := fun m r => .frz 0 _ _ _ rfl (.weak [] (.fro 0 _ _ rfl) rfl (Nat.le_refl _))
    refine fn_sound (mt := mts) tab_fits tab_mixed Tryz.func123 (by rfl) (by kernel_rfl) (by kernel_rfl) Tryz.results123 (Nat.le_of_ble_eq_true (by kernel_rfl)) ?_
    conv => whnf
    repeat' (first | (refine Split.mk (fun h => ?_) (fun h => ?_) <;> (try simp only [decide_eq_true_eq, decide_eq_false_iff_not, Bool.not_eq_true', Bool.not_eq_false', beq_iff_eq, beq_eq_false_iff_ne] at h) <;> (first | (exfalso; first | omega | exact h trivial) | (conv => whnf))) | (refine CondG.mk (fun h => ?_) (fun h => ?_) <;> (try simp only [decide_eq_true_eq, decide_eq_false_iff_not, Bool.not_eq_true', Bool.not_eq_false', beq_iff_eq, beq_eq_false_iff_ne] at h) <;> (first | (exfalso; first | omega | exact h trivial) | (conv => whnf))) | (refine Ask.mk (by first | omega | (unfold roomOK; simp [cutRows]; done) | (unfold roomOK; simp [cutRows]; omega)) ?_; conv => whnf) | (refine AppG.mk (by first | omega | (unfold roomOK; simp [cutRows]; done) | (unfold roomOK; simp [cutRows]; omega)) ?_; conv => whnf) | (refine SliceG.fr ?_; conv => whnf) | fail)
    · exact hfr 0 l
    refine loop_count (l.length - 1) [] [0, 3] (fun k (_ : Unit) => ⟨[(0, .c (.row 0)), (3, .c (.int .i64 ((k + 1 : Nat) : Int)))], [(0, .row 105 6 (l.map encAc))], 1⟩) (fun k (_ : Unit) => True) (()) ?_ ?_ ?_
    · conv => whnf
      exact ⟨rfl, trivial⟩
    · intro k _ hk _
      conv => whnf
      repeat' (first | (refine Split.mk (fun h => ?_) (fun h => ?_) <;> (try simp only [decide_eq_true_eq, decide_eq_false_iff_not, Bool.not_eq_true', Bool.not_eq_false', beq_iff_eq, beq_eq_false_iff_ne] at h) <;> (first | (exfalso; first | omega | exact h trivial) | (conv => whnf))) | (refine CondG.mk (fun h => ?_) (fun h => ?_) <;> (try simp only [decide_eq_true_eq, decide_eq_false_iff_not, Bool.not_eq_true', Bool.not_eq_false', beq_iff_eq, beq_eq_false_iff_ne] at h) <;> (first | (exfalso; first | omega | exact h trivial) | (conv => whnf))) | (refine Ask.mk (by first | omega | (unfold roomOK; simp [cutRows]; done) | (unfold roomOK; simp [cutRows]; omega)) ?_; conv => whnf) | (refine AppG.mk (by first | omega | (unfold roomOK; simp [cutRows]; done) | (unfold roomOK; simp [cutRows]; omega)) ?_; conv => whnf) | (refine SliceG.fr ?_; conv => whnf) | fail)
      have hw : IntKind.i64.wrap (((k + 1 : Nat) : Int) - 1) = ((k : Nat) : Int) := by rw [wrap_in (by omega) (by omega)]; omega
      refine row_at (k + 1) toN (by omega) ?_
      conv => whnf
      rw [hw]
      refine .mk (by rw [hlm]; omega) ?_
      conv => whnf
      refine row_at k toN (by omega) ?_
      conv => whnf
      refine .mk (fun h => ?_) (fun h => ?_)
      · exact absurd (eqAc.1 h) (hid k (by omega))
      · conv => whnf
        refine count_next () hk (by rw [wrap_succ (n := l.length) (by omega) (by omega)]; rfl) trivial
    · intro _ _
      conv => whnf
      repeat' (first | (refine Split.mk (fun h => ?_) (fun h => ?_) <;> (try simp only [decide_eq_true_eq, decide_eq_false_iff_not, Bool.not_eq_true', Bool.not_eq_false', beq_iff_eq, beq_eq_false_iff_ne] at h) <;> (first | (exfalso; first | omega | exact h trivial) | (conv => whnf))) | (refine CondG.mk (fun h => ?_) (fun h => ?_) <;> (try simp only [decide_eq_true_eq, decide_eq_false_iff_not, Bool.not_eq_true', Bool.not_eq_false', beq_iff_eq, beq_eq_false_iff_ne] at h) <;> (first | (exfalso; first | omega | exact h trivial) | (conv => whnf))) | (refine Ask.mk (by first | omega | (unfold roomOK; simp [cutRows]; done) | (unfold roomOK; simp [cutRows]; omega)) ?_; conv => whnf) | (refine AppG.mk (by first | omega | (unfold roomOK; simp [cutRows]; done) | (unfold roomOK; simp [cutRows]; omega)) ?_; conv => whnf) | (refine SliceG.fr ?_; conv => whnf) | fail)
      exact hfr 0 l
  · refine ⟨.dead, .inr rfl, ?_⟩
    have hid2 := mt (cpt_id l).2 hid
    refine fn_sound (mt := mts) tab_fits tab_mixed Tryz.func123 (by rfl) (by kernel_rfl) (by kernel_rfl) Tryz.results123 (Nat.le_of_ble_eq_true (by kernel_rfl)) ?_
    conv => whnf
    repeat' (first | (refine Split.mk (fun h => ?_) (fun h => ?_) <;> (try simp only [decide_eq_true_eq, decide_eq_false_iff_not, Bool.not_eq_true', Bool.not_eq_false', beq_iff_eq, beq_eq_false_iff_ne] at h) <;> (first | (exfalso; first | omega | exact h trivial) | (conv => whnf))) | (refine CondG.mk (fun h => ?_) (fun h => ?_) <;> (try simp only [decide_eq_true_eq, decide_eq_false_iff_not, Bool.not_eq_true', Bool.not_eq_false', beq_iff_eq, beq_eq_false_iff_ne] at h) <;> (first | (exfalso; first | omega | exact h trivial) | (conv => whnf))) | (refine Ask.mk (by first | omega | (unfold roomOK; simp [cutRows]; done) | (unfold roomOK; simp [cutRows]; omega)) ?_; conv => whnf) | (refine AppG.mk (by first | omega | (unfold roomOK; simp [cutRows]; done) | (unfold roomOK; simp [cutRows]; omega)) ?_; conv => whnf) | (refine SliceG.fr ?_; conv => whnf) | fail)
    · exfalso; exact hid2 (by intro i hi; omega)
    refine loop_count (l.length - 1) [] [0, 3] (fun k (_ : Unit) => ⟨[(0, .c (.row 0)), (3, .c (.int .i64 ((k + 1 : Nat) : Int)))], [(0, .row 105 6 (l.map encAc))], 1⟩) (fun k (_ : Unit) => ∀ i (h : i + 1 < l.length), i + 1 ≤ k → l[i + 1] ≠ l[i]) (()) ?_ ?_ ?_
    · conv => whnf
      exact ⟨rfl, by intro i hi h; omega⟩
    · intro k _ hk hi
      conv => whnf
      repeat' (first | (refine Split.mk (fun h => ?_) (fun h => ?_) <;> (try simp only [decide_eq_true_eq, decide_eq_false_iff_not, Bool.not_eq_true', Bool.not_eq_false', beq_iff_eq, beq_eq_false_iff_ne] at h) <;> (first | (exfalso; first | omega | exact h trivial) | (conv => whnf))) | (refine CondG.mk (fun h => ?_) (fun h => ?_) <;> (try simp only [decide_eq_true_eq, decide_eq_false_iff_not, Bool.not_eq_true', Bool.not_eq_false', beq_iff_eq, beq_eq_false_iff_ne] at h) <;> (first | (exfalso; first | omega | exact h trivial) | (conv => whnf))) | (refine Ask.mk (by first | omega | (unfold roomOK; simp [cutRows]; done) | (unfold roomOK; simp [cutRows]; omega)) ?_; conv => whnf) | (refine AppG.mk (by first | omega | (unfold roomOK; simp [cutRows]; done) | (unfold roomOK; simp [cutRows]; omega)) ?_; conv => whnf) | (refine SliceG.fr ?_; conv => whnf) | fail)
      have hw : IntKind.i64.wrap (((k + 1 : Nat) : Int) - 1) = ((k : Nat) : Int) := by rw [wrap_in (by omega) (by omega)]; omega
      refine row_at (k + 1) toN (by omega) ?_
      conv => whnf
      rw [hw]
      refine .mk (by rw [hlm]; omega) ?_
      conv => whnf
      refine row_at k toN (by omega) ?_
      conv => whnf
      refine .mk (fun h => ?_) (fun h => ?_)
      · have he : l[k + 1] = l[k] := eqAc.1 h
        have hfrom := cpt_from l k (by omega) hi
        clear h
        conv => whnf
        refine .mk (by rw [hlm]; omega) ?_
        conv => whnf
        refine .vw ?_
        conv => whnf
        have hn : l.length - (k + 1) - 1 + 1 + (k + 1) = l.length := by omega
        refine loop_count2 (l.length - (k + 1) - 1) [] [0, 3, 4, 5] (fun m (j : Nat) (q : List Ac) => ⟨[(0, .c (.row 0)), (3, .c (.int .i64 ((j : Nat) : Int))), (4, .c (.vw 0 6 (k + 1) (l.length - (k + 1)))), (5, .c (.int .i64 ((m + 1 : Nat) : Int)))], [(0, .row 105 6 (q.map encAc))], 1⟩) (fun m (j : Nat) (q : List Ac) => q.length = l.length ∧ j ≤ k + 1 + m ∧ q.drop (k + 1 + m) = l.drop (k + 1 + m) ∧ q.take j ++ cptA (l.getD (k + 1 + m) l[k]) (l.drop (k + 1 + m + 1)) = cpt l) (k + 1) (l) ?_ ?_ ?_
        · conv => whnf
          refine ⟨by rw [hlm]; rfl, rfl, Nat.le_refl _, rfl, ?_⟩
          rw [hfrom, getDD (show k + 1 + 0 < l.length by omega), List.drop_eq_getElem_cons (show k + 1 < l.length by omega), cptA, if_pos he, he]
        · intro m j q hm ⟨g1, g2, g3, g4⟩
          have hqm : (q.map encAc).length = q.length := List.length_map ..
          have hwm : IntKind.i64.wrap (((m + 1 : Nat) : Int) - 1) = ((m : Nat) : Int) := by rw [wrap_in (by omega) (by omega)]; omega
          have q1 : q[k + 1 + m]'(by omega) = l[k + 1 + m]'(by omega) := getElem_of_drop g3 (by omega) (by omega) (by omega)
          have q2 : q[k + 1 + m + 1]'(by omega) = l[k + 1 + m + 1]'(by omega) := getElem_of_drop g3 (by omega) (by omega) (by omega)
          conv => whnf
          repeat' (first | (refine Split.mk (fun h => ?_) (fun h => ?_) <;> (try simp only [decide_eq_true_eq, decide_eq_false_iff_not, Bool.not_eq_true', Bool.not_eq_false', beq_iff_eq, beq_eq_false_iff_ne] at h) <;> (first | (exfalso; first | omega | exact h trivial) | (conv => whnf))) | (refine CondG.mk (fun h => ?_) (fun h => ?_) <;> (try simp only [decide_eq_true_eq, decide_eq_false_iff_not, Bool.not_eq_true', Bool.not_eq_false', beq_iff_eq, beq_eq_false_iff_ne] at h) <;> (first | (exfalso; first | omega | exact h trivial) | (conv => whnf))) | (refine Ask.mk (by first | omega | (unfold roomOK; simp [cutRows]; done) | (unfold roomOK; simp [cutRows]; omega)) ?_; conv => whnf) | (refine AppG.mk (by first | omega | (unfold roomOK; simp [cutRows]; done) | (unfold roomOK; simp [cutRows]; omega)) ?_; conv => whnf) | (refine SliceG.fr ?_; conv => whnf) | fail)
          refine row_at (k + 1 + m + 1) (by rw [toN]; omega) (by omega) ?_
          conv => whnf
          rw [hwm]
          refine .mk (by omega) ?_
          conv => whnf
          refine row_at (k + 1 + m) (by rw [toN]) (by omega) ?_
          conv => whnf
          refine .mk (fun h => ?_) (fun h => ?_)
          · have he2 : ¬ l[k + 1 + m + 1]'(by omega) = l[k + 1 + m]'(by omega) := fun e => by
              rw [← q1, ← q2] at e
              exact absurd ((eqAc.2 e).symm.trans (notT h)) (by decide)
            obtain ⟨n1, n2⟩ := cpt_new g1 (by omega) g2 g3 g4 he2
            clear h
            conv => whnf
            refine .mk (by omega) ?_
            conv => whnf
            refine row_at (k + 1 + m + 1) (by rw [toN]; omega) (by omega) ?_
            conv => whnf
            refine .mk (by omega) ?_
            conv => whnf
            refine row_at j toN (by omega) ?_
            conv => whnf
            refine count_next (j + 1, q.set j (l[k + 1 + m + 1]'(by omega))) hm (by
              rw [wrap_succ (n := l.length) (by omega) (by omega), wrap_succ (n := l.length) (by omega) (by omega), toN, List.map_set, ← q2]; rfl) ⟨by simp [g1], by simp only; omega, n1, n2⟩
          · have he2 : l[k + 1 + m + 1]'(by omega) = l[k + 1 + m]'(by omega) := by
              rw [← q1, ← q2]
              exact eqAc.1 (notF h)
            obtain ⟨n1, n2⟩ := cpt_same (by omega) g3 g4 he2
            clear h
            conv => whnf
            refine count_next (j, q) hm (by rw [wrap_succ (n := l.length) (by omega) (by omega)]; rfl) ⟨g1, by simp only; omega, n1, n2⟩
        · intro j q ⟨g1, g2, g3, g4⟩
          have hqm : (q.map encAc).length = q.length := List.length_map ..
          rw [List.drop_of_length_le (by omega), cptA, List.append_nil] at g4
          conv => whnf
          refine .mk (fun h => ?_) (fun h => ?_)
          · simp at h; omega
          conv => whnf
          refine .mk (by omega) ?_
          conv => whnf
          refine .vw ?_
          conv => whnf
          refine .mk (by rw [overR]; simp; omega) ?_
          conv => whnf
          refine .cut ⟨rfl, ?_⟩
          conv => whnf
          rw [toN]
          have hrow : ∀ z : List V, (overR (q.map encAc) (List.replicate ((q.map encAc).length - j) z) j).take j = (cpt l).map encAc := by
            intro z
            rw [← g4, List.map_take]; unfold overR
            rw [List.append_assoc, List.take_append_of_le_length (by simp; omega), List.take_take, Nat.min_self]
          rw [hrow]
          exact .frz 1 _ _ _ rfl (.weak [_] (.fro 1 _ _ rfl) rfl (Nat.le_refl _))
      · have he : ¬ l[k + 1] = l[k] := fun e => absurd ((eqAc.2 e).symm.trans h) (by decide)
        conv => whnf
        refine count_next () hk (by rw [wrap_succ (n := l.length) (by omega) (by omega)]; rfl) ?_
        intro i hi1 hi2
        rcases Nat.lt_or_ge i k with h3 | h3
        · exact hi i hi1 h3
        · have : i = k := by omega
          subst this; exact he
    · intro _ hi
      exact absurd (fun i h => hi i h (by omega)) hid2
end Go.Proofs.YtllpjcgadfmipaaGreat

/- Acts are made. -/
namespace Go.Proofs.YtllpjcgadfmipaaGreat
set_option linter.unusedVariables false
set_option linter.unusedSimpArgs false
open Abs

def sgn (n : Int) : Int := if n < 0 then -1 else if 0 < n then 1 else 0
set_option maxRecDepth 100000 in
set_option maxHeartbeats 4000000 in
theorem sign_pc (n : Int) : PCp 169 [.c (.int .i64 n)] [] (.c (.int .i64 (sgn n))) [] := by
  refine fn_sound (mt := mts) tab_fits tab_mixed Tryz.func169 (by rfl) (by kernel_rfl) (by kernel_rfl) Tryz.results169 (Nat.le_of_ble_eq_true (by kernel_rfl)) ?_
  conv => whnf
  repeat' (first | (refine Split.mk (fun h => ?_) (fun h => ?_) <;> (try simp only [decide_eq_true_eq, decide_eq_false_iff_not, Bool.not_eq_true', Bool.not_eq_false', beq_iff_eq, beq_eq_false_iff_ne] at h) <;> (first | (exfalso; first | omega | exact h trivial) | (conv => whnf))) | (refine CondG.mk (fun h => ?_) (fun h => ?_) <;> (try simp only [decide_eq_true_eq, decide_eq_false_iff_not, Bool.not_eq_true', Bool.not_eq_false', beq_iff_eq, beq_eq_false_iff_ne] at h) <;> (first | (exfalso; first | omega | exact h trivial) | (conv => whnf))) | (refine Ask.mk (by first | omega | (unfold roomOK; simp [cutRows]; done) | (unfold roomOK; simp [cutRows]; omega)) ?_; conv => whnf) | (refine AppG.mk (by first | omega | (unfold roomOK; simp [cutRows]; done) | (unfold roomOK; simp [cutRows]; omega)) ?_; conv => whnf) | (refine SliceG.fr ?_; conv => whnf) | fail)
  all_goals exact fini (by simp_all [sgn] <;> omega)
/-- how the document orders acts -/
def ordC (a b : Ac) : Int :=
  if a.mo ≠ b.mo then sgn (IntKind.i64.wrap (a.mo - b.mo))
  else if a.drum ≠ b.drum then cmpS a.drum b.drum
  else if a.kd ≠ b.kd then sgn (IntKind.i64.wrap (a.kd - b.kd))
  else if a.ty ≠ b.ty then cmpS a.ty b.ty
  else if a.of ≠ b.of then cmpS a.of b.of
  else sgn (IntKind.i64.wrap (a.long - b.long))
theorem strEq {a b : ByteArray} : a.toList = b.toList ↔ a = b := ⟨toList_inj, fun h => by rw [h]⟩
set_option maxRecDepth 100000 in
set_option maxHeartbeats 4000000 in
theorem actOrder_pc (a b : Ac) : PCp 122 [.agg (encAc a), .agg (encAc b)] [] (.c (.int .i64 (ordC a b))) [] := by
  refine fn_sound (mt := mts) tab_fits tab_mixed Tryz.func122 (by rfl) (by kernel_rfl) (by kernel_rfl) Tryz.results122 (Nat.le_of_ble_eq_true (by kernel_rfl)) ?_
  conv => whnf
  repeat' (first | (refine Split.mk (fun h => ?_) (fun h => ?_) <;> (try simp only [decide_eq_true_eq, decide_eq_false_iff_not, Bool.not_eq_true', Bool.not_eq_false', beq_iff_eq, beq_eq_false_iff_ne] at h) <;> (first | (exfalso; first | omega | exact h trivial) | (conv => whnf))) | (refine CondG.mk (fun h => ?_) (fun h => ?_) <;> (try simp only [decide_eq_true_eq, decide_eq_false_iff_not, Bool.not_eq_true', Bool.not_eq_false', beq_iff_eq, beq_eq_false_iff_ne] at h) <;> (first | (exfalso; first | omega | exact h trivial) | (conv => whnf))) | (refine CallX.mk _ _ (by first | exact sign_pc _ | exact sCompare_pc _ _) ?_; conv => whnf) | (refine CallG.mk _ _ (by first | exact sign_pc _ | exact sCompare_pc _ _) ?_; conv => whnf) | (refine Ask.mk (by first | omega | (unfold roomOK; simp [cutRows]; done) | (unfold roomOK; simp [cutRows]; omega)) ?_; conv => whnf) | (refine AppG.mk (by first | omega | (unfold roomOK; simp [cutRows]; done) | (unfold roomOK; simp [cutRows]; omega)) ?_; conv => whnf) | (refine SliceG.fr ?_; conv => whnf) | fail)
  all_goals refine fini ?_
  all_goals unfold ordC
  all_goals simp_all [strEq]
def oddV (L : List Int) (p lo hi : Int) : Int := if nextV L p 12 == 0 then pickV L (p + 1) [lo - 1, hi + 1, lo, hi, -1099511627776, 1099511627776] else rangeV L (p + 1) lo hi
set_option maxRecDepth 100000 in
set_option maxHeartbeats 4000000 in
theorem odd_ok {L : List Int} {p : Int} (h : StOk L p) (h2 : StOk L (p + 1)) (lo hi : Int) (hlo : small lo) (hhi : small hi) (hlh : lo ≤ hi) : PCp 120 [.c (.ptr 0 0), .c (.int .i64 lo), .c (.int .i64 hi)] [stO L p] (.c (.int .i64 (oddV L p lo hi))) [stO L (p + 1 + 1)] := by
  have w1 : IntKind.i64.wrap (lo - 1) = lo - 1 := wrap_in (by unfold small at *; omega) (by unfold small at *; omega)
  have w2 : IntKind.i64.wrap (hi + 1) = hi + 1 := wrap_in (by unfold small at *; omega) (by unfold small at *; omega)
  refine fn_sound (mt := mts) tab_fits tab_mixed Tryz.func120 (by rfl) (by kernel_rfl) (by kernel_rfl) Tryz.results120 (Nat.le_of_ble_eq_true (by kernel_rfl)) ?_
  conv => whnf
  repeat' (first | (refine Split.mk (fun h => ?_) (fun h => ?_) <;> (try simp only [decide_eq_true_eq, decide_eq_false_iff_not, Bool.not_eq_true', Bool.not_eq_false', beq_iff_eq, beq_eq_false_iff_ne] at h) <;> (first | (exfalso; first | omega | exact h trivial) | (conv => whnf))) | (refine CondG.mk (fun h => ?_) (fun h => ?_) <;> (try simp only [decide_eq_true_eq, decide_eq_false_iff_not, Bool.not_eq_true', Bool.not_eq_false', beq_iff_eq, beq_eq_false_iff_ne] at h) <;> (first | (exfalso; first | omega | exact h trivial) | (conv => whnf))) | (refine CallX.mk _ _ (by first | exact flip_ok h 12 (by omega) | exact range_ok h2 lo hi hlh hlo hhi | exact (by rw [w1, w2]; exact pick_ok h2 [lo - 1, hi + 1, lo, hi, -1099511627776, 1099511627776] (by simp) (by simp))) ?_; conv => whnf) | (refine CallG.mk _ _ (by first | exact flip_ok h 12 (by omega) | exact range_ok h2 lo hi hlh hlo hhi | exact (by rw [w1, w2]; exact pick_ok h2 [lo - 1, hi + 1, lo, hi, -1099511627776, 1099511627776] (by simp) (by simp))) ?_; conv => whnf) | (refine Ask.mk (by first | omega | (unfold roomOK; simp [cutRows]; done) | (unfold roomOK; simp [cutRows]; omega)) ?_; conv => whnf) | (refine AppG.mk (by first | omega | (unfold roomOK; simp [cutRows]; done) | (unfold roomOK; simp [cutRows]; omega)) ?_; conv => whnf) | (refine SliceG.fr ?_; conv => whnf) | fail)
  · exact fini' (by rw [oddV, if_pos (by simpa using h)]) rfl
  · exact fini' (by rw [oddV, if_neg (by simpa using h)]) rfl
def bDa : ByteArray := ⟨#[100, 97]⟩
def bDb : ByteArray := ⟨#[100, 98]⟩
def names6 : List ByteArray := [bDa, bDb, ⟨#[100, 99]⟩, ⟨#[100, 100]⟩, ⟨#[]⟩, ⟨#[65]⟩]
theorem names_a (L : List Int) (p : Int) : someV L p [bDa, bDa, bDb, ⟨#[100, 99]⟩, ⟨#[100, 100]⟩] ∈ names6 := by
  have := someV_in L p [bDa, bDa, bDb, ⟨#[100, 99]⟩, ⟨#[100, 100]⟩] (by decide)
  generalize someV L p [bDa, bDa, bDb, ⟨#[100, 99]⟩, ⟨#[100, 100]⟩] = d at *
  simp only [List.mem_cons, List.not_mem_nil, or_false] at this
  unfold names6
  simp only [List.mem_cons, List.not_mem_nil, or_false]
  rcases this with h | h | h | h | h <;> simp [h]
theorem names_b (L : List Int) (p : Int) {e : ByteArray} (he : e ∈ names6) : someV L p [⟨#[]⟩, ⟨#[65]⟩, e] ∈ names6 := by
  have := someV_in L p [⟨#[]⟩, ⟨#[65]⟩, e] (by simp)
  generalize someV L p [⟨#[]⟩, ⟨#[65]⟩, e] = d at *
  simp only [List.mem_cons, List.not_mem_nil, or_false] at this
  rcases this with h | h | h
  · rw [h]; unfold names6; simp
  · rw [h]; unfold names6; simp
  · rw [h]; exact he
theorem names_push {l : List Ac} (h : ∀ x ∈ l, x.drum ∈ names6) {y : Ac} (hy : y.drum ∈ names6) : ∀ x ∈ l ++ [y], x.drum ∈ names6 := by
  intro x hx
  rcases List.mem_append.1 hx with h1 | h1
  · exact h x h1
  · simp at h1; subst h1; exact hy
set_option maxRecDepth 100000 in
set_option maxHeartbeats 4000000 in
theorem acts_pc {L : List Int} {p : Int} (hst : StOk L p) (hp : p ≤ 800000000) (n : Nat) (hn : n ≤ 14) :
    PCq 69 [.c (.ptr 0 0), .c (.int .i64 n)] [stO L p] fun r os => ∃ (l : List Ac) (p' : Int), r = .c (.lst 6 (l.map encAc)) ∧ os = [stO L p'] ∧ l.length ≤ n ∧ p ≤ p' ∧ p' ≤ p + 14 * n ∧ ∀ x ∈ l, x.drum ∈ names6 := by
  have hS : ∀ x : Int, p ≤ x → x ≤ p + 14 * 14 → StOk L x := fun x h3 h4 => ⟨hst.1, by have := hst.2.1; omega, by omega⟩
  refine fn_soundX (mt := mts) tab_fits tab_mixed Tryz.func69 (by rfl) (by kernel_rfl) (by kernel_rfl) Tryz.results69 (Nat.le_of_ble_eq_true (by kernel_rfl)) ?_
  conv => whnf
  refine loop_count3 (n) [.sl 5 105 6] [0, 5, 6, 9, 10] (fun k (at0 : Int) (q : Int) (l : List Ac) => ⟨[(0, .c (.ptr 0 0)), (5, .c (.row 1)), (6, .c (.int .i64 at0)), (9, .c (.int .i64 n)), (10, .c (.int .i64 k))], [(0, stO L q), (1, .row 105 6 (l.map encAc))], 2⟩) (fun k (at0 : Int) (q : Int) (l : List Ac) => l.length = k ∧ p ≤ q ∧ q ≤ p + 14 * k ∧ ∀ x ∈ l, x.drum ∈ names6) (0) (p) ([]) ?_ ?_ ?_
  · conv => whnf
    exact ⟨rfl, rfl, by omega, by omega, by intro x hx; cases hx⟩
  · intro k at0 q l hk ⟨h1, h2, h3, h4⟩
    have hlm : (l.map encAc).length = k := by rw [List.length_map, h1]
    have hQ : ∀ x : Int, q ≤ x → x ≤ q + 14 → StOk L x := fun x h3 h4 => hS x (by omega) (by omega)
    conv => whnf
    repeat' (first | (refine Split.mk (fun h => ?_) (fun h => ?_) <;> (try simp only [decide_eq_true_eq, decide_eq_false_iff_not, Bool.not_eq_true', Bool.not_eq_false', beq_iff_eq, beq_eq_false_iff_ne] at h) <;> (first | (exfalso; first | omega | exact h trivial) | (conv => whnf))) | (refine CondG.mk (fun h => ?_) (fun h => ?_) <;> (try simp only [decide_eq_true_eq, decide_eq_false_iff_not, Bool.not_eq_true', Bool.not_eq_false', beq_iff_eq, beq_eq_false_iff_ne] at h) <;> (first | (exfalso; first | omega | exact h trivial) | (conv => whnf))) | (refine CallX.mk _ _ (by first | exact pick_ok (hQ _ (by omega) (by omega)) [0, 1, 1, 5] (by decide) (by decide) | exact pick_ok (hQ _ (by omega) (by omega)) [2, 2, 2, 3, 4, 1] (by decide) (by decide) | exact some_ok (hQ _ (by omega) (by omega)) [bDa, bDa, bDb, ⟨#[100, 99]⟩, ⟨#[100, 100]⟩] (by decide) (by decide) | exact some_ok (hQ _ (by omega) (by omega)) [⟨#[116]⟩, ⟨#[117]⟩] (by decide) (by decide) | exact pick_ok (hQ _ (by omega) (by omega)) [60, 100] (by decide) (by decide) | exact pick_ok (hQ _ (by omega) (by omega)) [10, 20, 40, 60] (by decide) (by decide) | exact some_ok (hQ _ (by omega) (by omega)) [bDa, bDb, ⟨#[122, 122]⟩] (by decide) (by decide) | exact pick_ok (hQ _ (by omega) (by omega)) [5, 10] (by decide) (by decide) | exact flip_ok (hQ _ (by omega) (by omega)) 80 (by omega) | exact next_ok (hQ _ (by omega) (by omega)) 3 (by omega) | exact odd_ok (hQ _ (by omega) (by omega)) (hQ _ (by omega) (by omega)) 0 50 (small_lit (by decide)) (small_lit (by decide)) (by decide) | exact odd_ok (hQ _ (by omega) (by omega)) (hQ _ (by omega) (by omega)) 1 4 (small_lit (by decide)) (small_lit (by decide)) (by decide) | exact odd_ok (hQ _ (by omega) (by omega)) (hQ _ (by omega) (by omega)) 1 50 (small_lit (by decide)) (small_lit (by decide)) (by decide) | exact some_ok (hQ _ (by omega) (by omega)) [⟨#[]⟩, ⟨#[65]⟩, _] (by simp) (by simp) | exact some_ok (hQ _ (by omega) (by omega)) [⟨#[]⟩, ⟨#[116]⟩] (by decide) (by decide) | exact some_ok (hQ _ (by omega) (by omega)) [⟨#[]⟩, bDa] (by decide) (by decide)) ?_; conv => whnf) | (refine CallG.mk _ _ (by first | exact pick_ok (hQ _ (by omega) (by omega)) [0, 1, 1, 5] (by decide) (by decide) | exact pick_ok (hQ _ (by omega) (by omega)) [2, 2, 2, 3, 4, 1] (by decide) (by decide) | exact some_ok (hQ _ (by omega) (by omega)) [bDa, bDa, bDb, ⟨#[100, 99]⟩, ⟨#[100, 100]⟩] (by decide) (by decide) | exact some_ok (hQ _ (by omega) (by omega)) [⟨#[116]⟩, ⟨#[117]⟩] (by decide) (by decide) | exact pick_ok (hQ _ (by omega) (by omega)) [60, 100] (by decide) (by decide) | exact pick_ok (hQ _ (by omega) (by omega)) [10, 20, 40, 60] (by decide) (by decide) | exact some_ok (hQ _ (by omega) (by omega)) [bDa, bDb, ⟨#[122, 122]⟩] (by decide) (by decide) | exact pick_ok (hQ _ (by omega) (by omega)) [5, 10] (by decide) (by decide) | exact flip_ok (hQ _ (by omega) (by omega)) 80 (by omega) | exact next_ok (hQ _ (by omega) (by omega)) 3 (by omega) | exact odd_ok (hQ _ (by omega) (by omega)) (hQ _ (by omega) (by omega)) 0 50 (small_lit (by decide)) (small_lit (by decide)) (by decide) | exact odd_ok (hQ _ (by omega) (by omega)) (hQ _ (by omega) (by omega)) 1 4 (small_lit (by decide)) (small_lit (by decide)) (by decide) | exact odd_ok (hQ _ (by omega) (by omega)) (hQ _ (by omega) (by omega)) 1 50 (small_lit (by decide)) (small_lit (by decide)) (by decide) | exact some_ok (hQ _ (by omega) (by omega)) [⟨#[]⟩, ⟨#[65]⟩, _] (by simp) (by simp) | exact some_ok (hQ _ (by omega) (by omega)) [⟨#[]⟩, ⟨#[116]⟩] (by decide) (by decide) | exact some_ok (hQ _ (by omega) (by omega)) [⟨#[]⟩, bDa] (by decide) (by decide)) ?_; conv => whnf) | (refine Ask.mk (by first | omega | (unfold roomOK; simp [cutRows]; done) | (unfold roomOK; simp [cutRows]; omega)) ?_; conv => whnf) | (refine AppG.mk (by first | omega | (unfold roomOK; simp [cutRows]; done) | (unfold roomOK; simp [cutRows]; omega)) ?_; conv => whnf) | (refine SliceG.fr ?_; conv => whnf) | fail)
    all_goals exact count_next (_, _, l ++ [(⟨_, _, _, _, _, _⟩ : Ac)]) hk (by rw [wrap_succ hk (by omega)]; simp only [List.map_append]; rfl) ⟨by simp [h1], by simp only; omega, by simp only; omega, names_push h4 (by first | exact names_a L _ | exact names_b L _ (names_a L _))⟩
  · intro at0 q l ⟨h1, h2, h3, h4⟩
    have h5 : ∀ x ∈ cpt (insSort ordC l), x.drum ∈ names6 := fun x hx => h4 x ((insSort_perm ordC l).mem_iff.1 (mem_cpt hx))
    have hlm : (l.map encAc).length = n := by rw [List.length_map, h1]
    conv => whnf
    repeat' (first | (refine Split.mk (fun h => ?_) (fun h => ?_) <;> (try simp only [decide_eq_true_eq, decide_eq_false_iff_not, Bool.not_eq_true', Bool.not_eq_false', beq_iff_eq, beq_eq_false_iff_ne] at h) <;> (first | (exfalso; first | omega | exact h trivial) | (conv => whnf))) | (refine CondG.mk (fun h => ?_) (fun h => ?_) <;> (try simp only [decide_eq_true_eq, decide_eq_false_iff_not, Bool.not_eq_true', Bool.not_eq_false', beq_iff_eq, beq_eq_false_iff_ne] at h) <;> (first | (exfalso; first | omega | exact h trivial) | (conv => whnf))) | (refine CallX.mk _ _ (by first | exact stAct_pc _ ordC actOrder_pc l (by omega)) ?_; conv => whnf) | (refine CallG.mk _ _ (by first | exact stAct_pc _ ordC actOrder_pc l (by omega)) ?_; conv => whnf) | (refine Ask.mk (by first | omega | (unfold roomOK; simp [cutRows]; done) | (unfold roomOK; simp [cutRows]; omega)) ?_; conv => whnf) | (refine AppG.mk (by first | omega | (unfold roomOK; simp [cutRows]; done) | (unfold roomOK; simp [cutRows]; omega)) ?_; conv => whnf) | (refine SliceG.fr ?_; conv => whnf) | fail)
    have hle := cpt_len (insSort ordC l)
    rw [insSort_len] at hle
    obtain ⟨ob, ⟨rows, rfl⟩ | rfl, hc⟩ := cptAc_pc (insSort ordC l) (by rw [insSort_len]; omega)
    · refine .mk _ _ hc ?_
      conv => whnf
      exact .mk _ _ ⟨_, _, rfl, rfl, by omega, h2, by omega, h5⟩ (.mk ⟨rfl, rfl⟩)
    · refine .mk _ _ hc ?_
      conv => whnf
      exact .mk _ _ ⟨_, _, rfl, rfl, by omega, h2, by omega, h5⟩ (.mk ⟨rfl, rfl⟩)
end Go.Proofs.YtllpjcgadfmipaaGreat

/- A store, as the program follows it. -/
namespace Go.Proofs.YtllpjcgadfmipaaGreat
set_option linter.unusedVariables false
set_option linter.unusedSimpArgs false
open Abs

abbrev bE : ByteArray := ⟨#[]⟩
abbrev evD : ByteArray × Int → S := fun v => .agg [.str v.1, .int .i64 v.2]
abbrev evK : ByteArray → S := fun v => .c (.str v)
structure Sto where
  d : SM ByteArray (ByteArray × Int)
  k : SM ByteArray ByteArray
structure Sto.ok (s : Sto) : Prop where
  d : s.d.ok
  k : s.k.ok
abbrev stoD (s : Sto) : Ob := smO ekS evD s.d
abbrev stoK (s : Sto) : Ob := smO ekS evK s.k
def takeS (s : Sto) (x : Ac) : Sto × ByteArray × Int :=
  if x.kd = 1 ∨ x.kd = 3 then
    if (s.k.get x.drum).isSome then (s, bE, 6)
    else if x.kd = 1 then (⟨s.d.put x.drum (x.ty, x.long), s.k.put x.drum x.ty⟩, x.ty, 0)
    else if (s.k.get x.of).isSome then (⟨s.d.put x.drum ((s.k.get x.of).getD bE, x.long), s.k.put x.drum ((s.k.get x.of).getD bE)⟩, (s.k.get x.of).getD bE, 0)
    else (s, bE, 8)
  else if (s.d.get x.drum).isSome then
    if x.kd = 2 ∧ ((s.d.get x.drum).getD (bE, 0)).2 < x.long then (s, bE, 12)
    else if x.kd = 4 ∨ IntKind.i64.wrap (((s.d.get x.drum).getD (bE, 0)).2 - x.long) = 0 then (⟨s.d.del x.drum, s.k⟩, ((s.d.get x.drum).getD (bE, 0)).1, 0)
    else (⟨s.d.put x.drum (((s.d.get x.drum).getD (bE, 0)).1, IntKind.i64.wrap (((s.d.get x.drum).getD (bE, 0)).2 - x.long)), s.k⟩, ((s.d.get x.drum).getD (bE, 0)).1, 0)
  else (s, bE, 8)
set_option maxRecDepth 100000 in
set_option maxHeartbeats 4000000 in
theorem take_pc (s : Sto) (hs : s.ok) (x : Ac) :
    PCp 127 [.c (.ptr 0 0), .agg (encAc x)] [stBox, stoD s, stoK s] (.tup [.c (.str (takeS s x).2.1), .c (.int .i64 (takeS s x).2.2)]) [stBox, stoD (takeS s x).1, stoK (takeS s x).1] := by
  refine fn_sound (mt := mts) tab_fits tab_mixed Tryz.func127 (by rfl) (by kernel_rfl) (by kernel_rfl) Tryz.results127 (Nat.le_of_ble_eq_true (by kernel_rfl)) ?_
  conv => whnf
  repeat' (first | (refine Split.mk (fun h => ?_) (fun h => ?_) <;> (try simp only [decide_eq_true_eq, decide_eq_false_iff_not, Bool.not_eq_true', Bool.not_eq_false', beq_iff_eq, beq_eq_false_iff_ne] at h) <;> (first | (exfalso; first | omega | exact h trivial) | (conv => whnf))) | (refine CondG.mk (fun h => ?_) (fun h => ?_) <;> (try simp only [decide_eq_true_eq, decide_eq_false_iff_not, Bool.not_eq_true', Bool.not_eq_false', beq_iff_eq, beq_eq_false_iff_ne] at h) <;> (first | (exfalso; first | omega | exact h trivial) | (conv => whnf))) | (refine Ask.mk (by first | omega | (unfold roomOK; simp [cutRows]; done) | (unfold roomOK; simp [cutRows]; omega)) ?_; conv => whnf) | (refine AppG.mk (by first | omega | (unfold roomOK; simp [cutRows]; done) | (unfold roomOK; simp [cutRows]; omega)) ?_; conv => whnf) | (refine SliceG.fr ?_; conv => whnf) | ((with_reducible refine sm_look (ek := ekS) (ev := evD) keyStr s.d x.drum (bE, 0) ?_ ?_); exact rfl; conv => whnf) | ((with_reducible refine sm_look (ek := ekS) (ev := evK) keyStr s.k _ bE ?_ ?_); exact rfl; conv => whnf) | ((with_reducible refine sm_del (ek := ekS) (ev := evD) keyStr s.d x.drum ?_); conv => whnf) | ((with_reducible refine sm_upd (ek := ekS) (ev := evD) keyStr s.d x.drum (_, _) ?_); conv => whnf) | ((with_reducible refine sm_entry (ek := ekS) (ev := evD) keyStr s.d x.drum (bE, 0) ?_ ?_); exact rfl; conv => whnf) | ((with_reducible refine sm_entry (ek := ekS) (ev := evK) keyStr s.k x.drum bE ?_ ?_); exact rfl; conv => whnf) | ((with_reducible refine sm_stamp (ek := ekS) (ev := evD) hs.d x.drum _ (_, _) ?_ ?_); exact rfl; conv => whnf) | ((with_reducible refine sm_stamp (ek := ekS) (ev := evK) hs.k x.drum _ _ ?_ ?_); exact rfl; conv => whnf) | fail)
  all_goals try ((with_reducible refine sm_upd (ek := ekS) (ev := evD) keyStr s.d x.drum (((s.d.get x.drum).getD (bE, 0)).1, IntKind.i64.wrap (((s.d.get x.drum).getD (bE, 0)).2 - x.long)) ?_); conv => whnf)
  all_goals first
    | (have hT : takeS s x = (s, bE, 6) := by (unfold takeS; simp_all; done)
       rw [hT]; exact .mk ⟨rfl, rfl⟩)
    | (have hT : takeS s x = (s, bE, 8) := by (unfold takeS; simp_all; done)
       rw [hT]; exact .mk ⟨rfl, rfl⟩)
    | (have hT : takeS s x = (s, bE, 12) := by (unfold takeS; simp_all; done)
       rw [hT]; exact .mk ⟨rfl, rfl⟩)
    | (have hT : takeS s x = (⟨s.d.put x.drum (x.ty, x.long), s.k.put x.drum x.ty⟩, x.ty, 0) := by (unfold takeS; simp_all; done)
       rw [hT]; exact .mk ⟨rfl, rfl⟩)
    | (have hT : takeS s x = (⟨s.d.put x.drum ((s.k.get x.of).getD bE, x.long), s.k.put x.drum ((s.k.get x.of).getD bE)⟩, (s.k.get x.of).getD bE, 0) := by (unfold takeS; simp_all; done)
       rw [hT]; exact .mk ⟨rfl, rfl⟩)
    | (have hT : takeS s x = (⟨s.d.del x.drum, s.k⟩, ((s.d.get x.drum).getD (bE, 0)).1, 0) := by (unfold takeS; simp_all; done)
       rw [hT]; exact .mk ⟨rfl, rfl⟩)
    | (have hT : takeS s x = (⟨s.d.put x.drum (((s.d.get x.drum).getD (bE, 0)).1, IntKind.i64.wrap (((s.d.get x.drum).getD (bE, 0)).2 - x.long)), s.k⟩, ((s.d.get x.drum).getD (bE, 0)).1, 0) := by (unfold takeS; simp_all; done)
       rw [hT]; exact .mk ⟨rfl, rfl⟩)
end Go.Proofs.YtllpjcgadfmipaaGreat

/- What was used, as the program counts it. -/
namespace Go.Proofs.YtllpjcgadfmipaaGreat
set_option linter.unusedVariables false
set_option linter.unusedSimpArgs false
open Abs

abbrev Wi := Int × Int
abbrev encW (w : Wi) : List V := [.int .i64 w.1, .int .i64 w.2]
def winB (w : Wi) : Bool := decide (0 ≤ w.1 ∧ w.1 ≤ w.2 ∧ w.2 ≤ 345686400000)
set_option maxRecDepth 100000 in
set_option maxHeartbeats 4000000 in
theorem bWindow_pc (w : Wi) : PCp 126 [.agg (encW w)] [] (.c (.bool (winB w))) [] := by
  refine fn_sound (mt := mts) tab_fits tab_mixed Tryz.func126 (by rfl) (by kernel_rfl) (by kernel_rfl) Tryz.results126 (Nat.le_of_ble_eq_true (by kernel_rfl)) ?_
  conv => whnf
  repeat' (first | (refine Split.mk (fun h => ?_) (fun h => ?_) <;> (try simp only [decide_eq_true_eq, decide_eq_false_iff_not, Bool.not_eq_true', Bool.not_eq_false', beq_iff_eq, beq_eq_false_iff_ne] at h) <;> (first | (exfalso; first | omega | exact h trivial) | (conv => whnf))) | (refine CondG.mk (fun h => ?_) (fun h => ?_) <;> (try simp only [decide_eq_true_eq, decide_eq_false_iff_not, Bool.not_eq_true', Bool.not_eq_false', beq_iff_eq, beq_eq_false_iff_ne] at h) <;> (first | (exfalso; first | omega | exact h trivial) | (conv => whnf))) | (refine CallX.mk _ _ (by first | exact bOut_pc _ _ _) ?_; conv => whnf) | (refine CallG.mk _ _ (by first | exact bOut_pc _ _ _) ?_; conv => whnf) | (refine Ask.mk (by first | omega | (unfold roomOK; simp [cutRows]; done) | (unfold roomOK; simp [cutRows]; omega)) ?_; conv => whnf) | (refine AppG.mk (by first | omega | (unfold roomOK; simp [cutRows]; done) | (unfold roomOK; simp [cutRows]; omega)) ?_; conv => whnf) | (refine SliceG.fr ?_; conv => whnf) | fail)
  all_goals exact finb (by simp_all [winB] <;> omega)
def winErr (l : List Ac) (kind : ByteArray) (w : Wi) : Int := if actsFault l ≠ 0 then actsFault l else if !keyB kind then 5 else if !winB w then 1 else 0
set_option maxRecDepth 100000 in
set_option maxHeartbeats 4000000 in
theorem dWinFault_pc (l : List Ac) (kind : ByteArray) (w : Wi) : PCp 71 [.c (.lst 6 (l.map encAc)), .c (.str kind), .agg (encW w)] [] (.c (.int .i64 (winErr l kind w))) [] := by
  refine fn_sound (mt := mts) tab_fits tab_mixed Tryz.func71 (by rfl) (by kernel_rfl) (by kernel_rfl) Tryz.results71 (Nat.le_of_ble_eq_true (by kernel_rfl)) ?_
  conv => whnf
  repeat' (first | (refine Split.mk (fun h => ?_) (fun h => ?_) <;> (try simp only [decide_eq_true_eq, decide_eq_false_iff_not, Bool.not_eq_true', Bool.not_eq_false', beq_iff_eq, beq_eq_false_iff_ne] at h) <;> (first | (exfalso; first | omega | exact h trivial) | (conv => whnf))) | (refine CondG.mk (fun h => ?_) (fun h => ?_) <;> (try simp only [decide_eq_true_eq, decide_eq_false_iff_not, Bool.not_eq_true', Bool.not_eq_false', beq_iff_eq, beq_eq_false_iff_ne] at h) <;> (first | (exfalso; first | omega | exact h trivial) | (conv => whnf))) | (refine CallX.mk _ _ (by first | exact checkActs_pc l | exact bKey_pc _ | exact bWindow_pc w) ?_; conv => whnf) | (refine CallG.mk _ _ (by first | exact checkActs_pc l | exact bKey_pc _ | exact bWindow_pc w) ?_; conv => whnf) | (refine Ask.mk (by first | omega | (unfold roomOK; simp [cutRows]; done) | (unfold roomOK; simp [cutRows]; omega)) ?_; conv => whnf) | (refine AppG.mk (by first | omega | (unfold roomOK; simp [cutRows]; done) | (unfold roomOK; simp [cutRows]; omega)) ?_; conv => whnf) | (refine SliceG.fr ?_; conv => whnf) | fail)
  all_goals exact fini (by simp_all [winErr])

/-- the store behind the first acts -/
def stoNil : Sto := ⟨SM.nil, SM.nil⟩
def stoAt (l : List Ac) : Nat → Sto
  | 0 => stoNil
  | k + 1 => (takeS (stoAt l k) (l.getD k ⟨0, 0, bE, bE, bE, 0⟩)).1
theorem takeS_ok {s : Sto} (hs : s.ok) (x : Ac) : (takeS s x).1.ok := by
  unfold takeS
  repeat' split
  all_goals first
    | exact hs
    | exact ⟨hs.d.put _ _, hs.k.put _ _⟩
    | exact ⟨hs.d.del _, hs.k⟩
    | exact ⟨hs.d.put _ _, hs.k⟩
theorem stoAt_ok (l : List Ac) : ∀ k, (stoAt l k).ok
  | 0 => ⟨SM.ok_nil, SM.ok_nil⟩
  | k + 1 => takeS_ok (stoAt_ok l k) _
end Go.Proofs.YtllpjcgadfmipaaGreat

/- The least stock, as the program finds it. -/
namespace Go.Proofs.YtllpjcgadfmipaaGreat
set_option linter.unusedVariables false
set_option linter.unusedSimpArgs false
open Abs

abbrev DE := Nat × ByteArray × (ByteArray × Int)
def sumK (kind : ByteArray) : List DE → Int
  | [] => 0
  | e :: r => sumK kind r + (if e.2.2.1 = kind then e.2.2.2 else 0)
theorem sumK_perm (kind : ByteArray) {l m : List DE} (h : l.Perm m) : sumK kind l = sumK kind m := by
  induction h with
  | nil => rfl
  | cons x _ ih => simp only [sumK, ih]
  | swap x y l => simp only [sumK]; omega
  | trans _ _ h1 h2 => exact h1.trans h2
def LongOk (s : Sto) : Prop := (∀ e ∈ s.d.es, 0 < e.2.2.2 ∧ e.2.2.2 ≤ 200000) ∧ s.d.es.length ≤ 1000000
theorem sumK_in (kind : ByteArray) : ∀ (l : List DE), (∀ e ∈ l, 0 < e.2.2.2 ∧ e.2.2.2 ≤ 200000) → 0 ≤ sumK kind l ∧ sumK kind l ≤ 200000 * l.length
  | [], _ => by simp [sumK]
  | e :: r, h => by
    have ih := sumK_in kind r (fun e he => h e (by simp [he]))
    have := h e (by simp)
    simp only [sumK, List.length_cons]
    split <;> omega
set_option maxRecDepth 100000 in
set_option maxHeartbeats 4000000 in
theorem total_pc (s : Sto) (hs : s.ok) (hb : LongOk s) (kind : ByteArray) : PCp 74 [.c (.ptr 0 0), .c (.str kind)] [stBox, stoD s, stoK s] (.c (.int .i64 (sumK kind s.d.es))) [stBox, stoD s, stoK s] := by
  refine fn_sound (mt := mts) tab_fits tab_mixed Tryz.func74 (by rfl) (by kernel_rfl) (by kernel_rfl) Tryz.results74 (Nat.le_of_ble_eq_true (by kernel_rfl)) ?_
  conv => whnf
  refine loop_meas (fun (vis : List DE) => s.d.es.length - vis.length) [] [1, 5, 12] (fun (vis : List DE) => ⟨[(1, .c (.str kind)), (5, .c (.int .i64 (sumK kind vis))), (12, .c (.ptr 3 0))], [(0, stBox), (1, stoD s), (2, stoK s), (3, .iter 1 s.d.clock (vis.map (·.1)))], 4⟩) (fun (vis : List DE) => Vis s.d vis) ([]) ?_ ?_
  · conv => whnf
    exact ⟨rfl, Vis.nil _⟩
  · intro vis hv
    have hvl := hv.len
    have hsub := sumK_in kind vis (fun e he => hb.1 e (hv.sub e he))
    have hb2 := hb.2
    conv => whnf
    refine .mk rfl ?_
    conv => whnf
    refine sm_next hs.d hv (fun hp => ?_) (fun e he hn hv' hlt => ?_)
    · conv => whnf
      exact fini (sumK_perm kind hp)
    · have hbe := hb.1 e he
      conv => whnf
      refine .mk rfl ?_
      conv => whnf
      refine sm_at hs.d he ?_
      conv => whnf
      repeat' (first | (refine Split.mk (fun h => ?_) (fun h => ?_) <;> (try simp only [decide_eq_true_eq, decide_eq_false_iff_not, Bool.not_eq_true', Bool.not_eq_false', beq_iff_eq, beq_eq_false_iff_ne, bne_iff_ne, bne_eq_false_iff_eq] at h) <;> (first | (exfalso; first | omega | exact h trivial) | (conv => whnf))) | (refine CondG.mk (fun h => ?_) (fun h => ?_) <;> (try simp only [decide_eq_true_eq, decide_eq_false_iff_not, Bool.not_eq_true', Bool.not_eq_false', beq_iff_eq, beq_eq_false_iff_ne, bne_iff_ne, bne_eq_false_iff_eq] at h) <;> (first | (exfalso; first | omega | exact h trivial) | (conv => whnf))) | (refine Ask.mk (by first | omega | (unfold roomOK; simp [cutRows]; done) | (unfold roomOK; simp [cutRows]; omega) | (simp [cutRows]; done) | (simp [cutRows]; omega)) ?_; conv => whnf) | (refine AppG.mk (by first | omega | (unfold roomOK; simp [cutRows]; done) | (unfold roomOK; simp [cutRows]; omega) | (simp [cutRows]; done) | (simp [cutRows]; omega)) ?_; conv => whnf) | (refine SliceG.fr ?_; conv => whnf) | (refine idx_at _ (by with_reducible rfl) (by first | assumption | omega) ?_; conv => whnf) | ((with_reducible refine row_map (by first | assumption | omega) ?_); conv => whnf) | ((with_reducible refine row_set (by first | assumption | omega | (simp only [List.length_set]; omega) | (simp; omega)) ?_); conv => whnf) | fail)
      · exact meas_next (e :: vis) (by simp only [List.length_cons]; omega) (by rw [wrap_in (by omega) (by omega)]; simp only [sumK, if_pos (strEq.1 h)]; rfl) hv'
      · exact meas_next (e :: vis) (by simp only [List.length_cons]; omega) (by simp only [sumK, if_neg (fun e => h (strEq.2 e)), Int.add_zero]; rfl) hv'

/-- what is turned by an act: the number now, the least, begun -/
structure Lo where
  now : Int
  least : Int
  begun : Bool
def lowStep (l : List Ac) (kind : ByteArray) (w : Wi) (i : Nat) (of : ByteArray) (e tot : Int) (q : Lo) : Lo :=
  let mo := (l.getD i ⟨0, 0, bE, bE, bE, 0⟩).mo
  let q1 : Lo := if w.1 < mo ∧ q.begun = false then ⟨q.now, q.now, true⟩ else q
  if w.2 ≤ mo then q1
  else
    let q2 : Lo := if e = 0 ∧ of = kind then ⟨tot, q1.least, q1.begun⟩ else q1
    if q2.begun = true ∧ ((i : Int) = (l.length : Int) - 1 ∨ mo < (l.getD (i + 1) ⟨0, 0, bE, bE, bE, 0⟩).mo) then ⟨q2.now, if q2.now < q2.least then q2.now else q2.least, true⟩ else q2
set_option maxRecDepth 100000 in
set_option maxHeartbeats 4000000 in
theorem low1_pc (s : Sto) (hs : s.ok) (hb : LongOk s) (l : List Ac) (hl : l.length ≤ 1000000) (kind : ByteArray) (w : Wi) (i : Nat) (hi : i < l.length) (of : ByteArray) (e : Int) (q : Lo) :
    PCp 73 [.c (.ptr 0 0), .c (.int .i64 i), .c (.str of), .c (.int .i64 e), .c (.ptr 3 0), .c (.ptr 4 0), .c (.ptr 5 0), .c (.ptr 6 0), .c (.ptr 7 0), .c (.ptr 8 0)] [stBox, stoD s, stoK s, .box [.lst 6 (l.map encAc)], .box (encW w), .box [.bool q.begun], .box [.int .i64 q.now], .box [.int .i64 q.least], .box [.str kind]]
      (.tup []) [stBox, stoD s, stoK s, .box [.lst 6 (l.map encAc)], .box (encW w), .box [.bool (lowStep l kind w i of e (sumK kind s.d.es) q).begun], .box [.int .i64 (lowStep l kind w i of e (sumK kind s.d.es) q).now], .box [.int .i64 (lowStep l kind w i of e (sumK kind s.d.es) q).least], .box [.str kind]] := by
  have hlm : (l.map encAc).length = l.length := List.length_map ..
  have hw1 : IntKind.i64.wrap (((l.map encAc).length : Nat) - 1 : Int) = (l.length : Int) - 1 := by rw [hlm]; exact wrap_in (by omega) (by omega)
  have hg : l.getD i ⟨0, 0, bE, bE, bE, 0⟩ = l[i] := by simp [hi]
  have hg1 : ∀ (h : i + 1 < l.length), l.getD (i + 1) ⟨0, 0, bE, bE, bE, 0⟩ = l[i + 1] := by intro h; simp [h]
  obtain ⟨now, least, begun⟩ := q
  have hw2 : IntKind.i64.wrap ((i : Int) + 1) = ((i + 1 : Nat) : Int) := by rw [wrap_in (by omega) (by omega)]; rfl
  refine fn_sound (mt := mts) tab_fits tab_mixed Tryz.func73 (by rfl) (by kernel_rfl) (by kernel_rfl) Tryz.results73 (Nat.le_of_ble_eq_true (by kernel_rfl)) ?_
  conv => whnf
  repeat' (first | (refine Split.mk (fun h => ?_) (fun h => ?_) <;> (try simp only [decide_eq_true_eq, decide_eq_false_iff_not, Bool.not_eq_true', Bool.not_eq_false', beq_iff_eq, beq_eq_false_iff_ne, bne_iff_ne, bne_eq_false_iff_eq] at h) <;> (first | (exfalso; first | omega | exact h trivial) | (conv => whnf))) | (refine CondG.mk (fun h => ?_) (fun h => ?_) <;> (try simp only [decide_eq_true_eq, decide_eq_false_iff_not, Bool.not_eq_true', Bool.not_eq_false', beq_iff_eq, beq_eq_false_iff_ne, bne_iff_ne, bne_eq_false_iff_eq] at h) <;> (first | (exfalso; first | omega | exact h trivial) | (conv => whnf))) | (refine CallX.mk _ _ (by first | exact total_pc s hs hb kind) ?_; conv => whnf) | (refine CallG.mk _ _ (by first | exact total_pc s hs hb kind) ?_; conv => whnf) | (refine Ask.mk (by first | omega | (unfold roomOK; simp [cutRows]; done) | (unfold roomOK; simp [cutRows]; omega) | (simp [cutRows]; done) | (simp [cutRows]; omega)) ?_; conv => whnf) | (refine AppG.mk (by first | omega | (unfold roomOK; simp [cutRows]; done) | (unfold roomOK; simp [cutRows]; omega) | (simp [cutRows]; done) | (simp [cutRows]; omega)) ?_; conv => whnf) | (refine SliceG.fr ?_; conv => whnf) | (refine idx_at _ (by with_reducible rfl) (by first | assumption | omega) ?_; conv => whnf) | ((with_reducible refine row_map (by first | assumption | omega) ?_); conv => whnf) | ((with_reducible refine row_set (by first | assumption | omega | (simp only [List.length_set]; omega) | (simp; omega)) ?_); conv => whnf) | (rw [hw2]; refine idx_map (i + 1) (by omega) rfl ?_; conv => whnf) | fail)
  all_goals (refine .mk ⟨rfl, ?_⟩)
  all_goals (simp only [lowStep, hg]; clear hs hb)
  all_goals (first | (have hq := hg1 (by omega); rw [hq]) | skip)
  all_goals (try simp only [strEq] at *)
  all_goals (repeat' split)
  all_goals first | rfl | (exfalso; first | omega | (simp_all; done) | (simp_all; omega)) | (simp_all; done) | (simp_all; omega)
end Go.Proofs.YtllpjcgadfmipaaGreat

/- The least stock, as the program finds it: all acts. -/
namespace Go.Proofs.YtllpjcgadfmipaaGreat
set_option linter.unusedVariables false
set_option linter.unusedSimpArgs false
open Abs

abbrev acD : Ac := ⟨0, 0, bE, bE, bE, 0⟩
def lowAt (l : List Ac) (kind : ByteArray) (w : Wi) : Nat → Lo
  | 0 => ⟨0, 0, false⟩
  | k + 1 => lowStep l kind w k (takeS (stoAt l k) (l.getD k acD)).2.1 (takeS (stoAt l k) (l.getD k acD)).2.2 (sumK kind (stoAt l (k + 1)).d.es) (lowAt l kind w k)
set_option maxRecDepth 100000 in
set_option maxHeartbeats 4000000 in
theorem followL_pc (l : List Ac) (hl : l.length ≤ 1000000) (hb : ∀ k, k ≤ l.length → LongOk (stoAt l k)) (kind : ByteArray) (w : Wi) :
    PCp 72 [.c (.lst 6 (l.map encAc)), .c (.fn 73 [.ptr 0 0, .ptr 1 0, .ptr 2 0, .ptr 3 0, .ptr 4 0, .ptr 5 0])] [.box [.lst 6 (l.map encAc)], .box (encW w), .box [.bool false], .box [.int .i64 0], .box [.int .i64 0], .box [.str kind]]
      (.c (.ptr 6 0)) [.box [.lst 6 (l.map encAc)], .box (encW w), .box [.bool (lowAt l kind w l.length).begun], .box [.int .i64 (lowAt l kind w l.length).now], .box [.int .i64 (lowAt l kind w l.length).least], .box [.str kind], .box [.mp 7, .mp 8], stoD (stoAt l l.length), stoK (stoAt l l.length)] := by
  have hlm : (l.map encAc).length = l.length := List.length_map ..
  refine fn_sound (mt := mts) tab_fits tab_mixed Tryz.func72 (by rfl) (by kernel_rfl) (by kernel_rfl) Tryz.results72 (Nat.le_of_ble_eq_true (by kernel_rfl)) ?_
  conv => whnf
  refine loop_count (l.length) [] [1, 5, 14, 15, 16] (fun k (_ : Unit) => ⟨[(1, .c (.fn 73 [.ptr 0 0, .ptr 1 0, .ptr 2 0, .ptr 3 0, .ptr 4 0, .ptr 5 0])), (5, .c (.ptr 6 0)), (14, .c (.lst 6 (l.map encAc))), (15, .c (.int .i64 (l.map encAc).length)), (16, .c (.int .i64 k))], [(0, .box [.lst 6 (l.map encAc)]), (1, .box (encW w)), (2, .box [.bool (lowAt l kind w k).begun]), (3, .box [.int .i64 (lowAt l kind w k).now]), (4, .box [.int .i64 (lowAt l kind w k).least]), (5, .box [.str kind]), (6, .box [.mp 7, .mp 8]), (7, stoD (stoAt l k)), (8, stoK (stoAt l k))], 9⟩) (fun k (_ : Unit) => True) (()) ?_ ?_ ?_
  · conv => whnf
    exact ⟨rfl, trivial⟩
  · intro k _ hk _
    have hg : l.getD k acD = l[k] := by simp [hk]
    have hs1 : stoAt l (k + 1) = (takeS (stoAt l k) l[k]).1 := by rw [stoAt, hg]
    have hb1 := hb (k + 1) (by omega)
    have ho1 := stoAt_ok l (k + 1)
    rw [hs1] at hb1 ho1
    conv => whnf
    repeat' (first | (refine Split.mk (fun h => ?_) (fun h => ?_) <;> (try simp only [decide_eq_true_eq, decide_eq_false_iff_not, Bool.not_eq_true', Bool.not_eq_false', beq_iff_eq, beq_eq_false_iff_ne, bne_iff_ne, bne_eq_false_iff_eq] at h) <;> (first | (exfalso; first | omega | exact h trivial) | (conv => whnf))) | (refine CondG.mk (fun h => ?_) (fun h => ?_) <;> (try simp only [decide_eq_true_eq, decide_eq_false_iff_not, Bool.not_eq_true', Bool.not_eq_false', beq_iff_eq, beq_eq_false_iff_ne, bne_iff_ne, bne_eq_false_iff_eq] at h) <;> (first | (exfalso; first | omega | exact h trivial) | (conv => whnf))) | (refine CallX.mk _ _ (by first | exact take_pc (stoAt l k) (stoAt_ok l k) l[k] | exact low1_pc _ ho1 hb1 l hl kind w k hk _ _ (lowAt l kind w k)) ?_; conv => whnf) | (refine CallG.mk _ _ (by first | exact take_pc (stoAt l k) (stoAt_ok l k) l[k] | exact low1_pc _ ho1 hb1 l hl kind w k hk _ _ (lowAt l kind w k)) ?_; conv => whnf) | (refine Ask.mk (by first | omega | (unfold roomOK; simp [cutRows]; done) | (unfold roomOK; simp [cutRows]; omega) | (simp [cutRows]; done) | (simp [cutRows]; omega)) ?_; conv => whnf) | (refine AppG.mk (by first | omega | (unfold roomOK; simp [cutRows]; done) | (unfold roomOK; simp [cutRows]; omega) | (simp [cutRows]; done) | (simp [cutRows]; omega)) ?_; conv => whnf) | (refine SliceG.fr ?_; conv => whnf) | (refine idx_at _ (by with_reducible rfl) (by first | assumption | omega) ?_; conv => whnf) | ((with_reducible refine row_map (by first | assumption | omega) ?_); conv => whnf) | ((with_reducible refine row_set (by first | assumption | omega | (simp only [List.length_set]; omega) | (simp; omega)) ?_); conv => whnf) | fail)
    refine count_next () hk (by rw [wrap_succ hk (by omega)]; simp only [lowAt, hs1, hg]; rfl) trivial
  · intro _ _
    conv => whnf
    repeat' (first | (refine Split.mk (fun h => ?_) (fun h => ?_) <;> (try simp only [decide_eq_true_eq, decide_eq_false_iff_not, Bool.not_eq_true', Bool.not_eq_false', beq_iff_eq, beq_eq_false_iff_ne] at h) <;> (first | (exfalso; first | omega | exact h trivial) | (conv => whnf))) | (refine CondG.mk (fun h => ?_) (fun h => ?_) <;> (try simp only [decide_eq_true_eq, decide_eq_false_iff_not, Bool.not_eq_true', Bool.not_eq_false', beq_iff_eq, beq_eq_false_iff_ne] at h) <;> (first | (exfalso; first | omega | exact h trivial) | (conv => whnf))) | (refine Ask.mk (by first | omega | (unfold roomOK; simp [cutRows]; done) | (unfold roomOK; simp [cutRows]; omega)) ?_; conv => whnf) | (refine AppG.mk (by first | omega | (unfold roomOK; simp [cutRows]; done) | (unfold roomOK; simp [cutRows]; omega)) ?_; conv => whnf) | (refine SliceG.fr ?_; conv => whnf) | fail)
    exact .mk ⟨rfl, rfl⟩
def lowErr (l : List Ac) (kind : ByteArray) (w : Wi) : Int := if winErr l kind w = 0 ∧ w.1 = w.2 then 1 else winErr l kind w
def lowRes (l : List Ac) (kind : ByteArray) (w : Wi) : Int := if (lowAt l kind w l.length).begun then (lowAt l kind w l.length).least else (lowAt l kind w l.length).now
def lowV (l : List Ac) (kind : ByteArray) (w : Wi) : Int := if lowErr l kind w = 0 then lowRes l kind w else 0
set_option maxRecDepth 100000 in
set_option maxHeartbeats 4000000 in
theorem dLowest_pc (l : List Ac) (kind : ByteArray) (w : Wi) (hl : l.length ≤ 1000000) (hb : winErr l kind w = 0 → ∀ k, k ≤ l.length → LongOk (stoAt l k)) :
    PCp 31 [.c (.lst 6 (l.map encAc)), .c (.str kind), .agg (encW w)] [] (.tup [.c (.int .i64 (lowV l kind w)), .c (.int .i64 (lowErr l kind w))]) [] := by
  refine fn_sound (mt := mts) tab_fits tab_mixed Tryz.func31 (by rfl) (by kernel_rfl) (by kernel_rfl) Tryz.results31 (Nat.le_of_ble_eq_true (by kernel_rfl)) ?_
  conv => whnf
  repeat' (first | (refine Split.mk (fun h => ?_) (fun h => ?_) <;> (try simp only [decide_eq_true_eq, decide_eq_false_iff_not, Bool.not_eq_true', Bool.not_eq_false', beq_iff_eq, beq_eq_false_iff_ne, bne_iff_ne, bne_eq_false_iff_eq] at h) <;> (first | (exfalso; first | omega | exact h trivial) | (conv => whnf))) | (refine CondG.mk (fun h => ?_) (fun h => ?_) <;> (try simp only [decide_eq_true_eq, decide_eq_false_iff_not, Bool.not_eq_true', Bool.not_eq_false', beq_iff_eq, beq_eq_false_iff_ne, bne_iff_ne, bne_eq_false_iff_eq] at h) <;> (first | (exfalso; first | omega | exact h trivial) | (conv => whnf))) | (refine CallX.mk _ _ (by first | exact dWinFault_pc l kind w | exact followL_pc l hl (hb (by assumption)) kind w) ?_; conv => whnf) | (refine CallG.mk _ _ (by first | exact dWinFault_pc l kind w | exact followL_pc l hl (hb (by assumption)) kind w) ?_; conv => whnf) | (refine Ask.mk (by first | omega | (unfold roomOK; simp [cutRows]; done) | (unfold roomOK; simp [cutRows]; omega) | (simp [cutRows]; done) | (simp [cutRows]; omega)) ?_; conv => whnf) | (refine AppG.mk (by first | omega | (unfold roomOK; simp [cutRows]; done) | (unfold roomOK; simp [cutRows]; omega) | (simp [cutRows]; done) | (simp [cutRows]; omega)) ?_; conv => whnf) | (refine SliceG.fr ?_; conv => whnf) | (refine idx_at _ (by with_reducible rfl) (by first | assumption | omega) ?_; conv => whnf) | ((with_reducible refine row_map (by first | assumption | omega) ?_); conv => whnf) | ((with_reducible refine row_set (by first | assumption | omega | (simp only [List.length_set]; omega) | (simp; omega)) ?_); conv => whnf) | fail)
  all_goals exact .mk ⟨by simp_all [lowV, lowErr, lowRes, oneOf], rfl⟩
end Go.Proofs.YtllpjcgadfmipaaGreat

/- The document's store. -/
namespace Go.Proofs.YtllpjcgadfmipaaGreat
set_option linter.unusedVariables false
set_option linter.unusedSimpArgs false
open Abs

structure Rto where
  l : SM ByteArray Int
  k : SM ByteArray ByteArray
structure Rto.ok (s : Rto) : Prop where
  l : s.l.ok
  k : s.k.ok
/-- the store behind an act, what was cut, the error -/
def doR (s : Rto) (x : Ac) : Rto × Int × Int :=
  if x.kd = 1 then
    if (s.k.get x.drum).isSome then (s, 0, 6) else (⟨s.l.put x.drum x.long, s.k.put x.drum x.ty⟩, 0, 0)
  else if x.kd = 2 then
    if (s.l.get x.drum).getD 0 = 0 then (s, 0, 8)
    else if (s.l.get x.drum).getD 0 < x.long then (s, 0, 12)
    else (⟨s.l.put x.drum (IntKind.i64.wrap ((s.l.get x.drum).getD 0 - x.long)), s.k⟩, x.long, 0)
  else if x.kd = 3 then
    if (s.k.get x.drum).isSome then (s, 0, 6)
    else if (s.k.get x.of).isSome then (⟨s.l.put x.drum x.long, s.k.put x.drum ((s.k.get x.of).getD bE)⟩, IntKind.i64.wrap (0 - x.long), 0)
    else (s, 0, 8)
  else if (s.l.get x.drum).getD 0 = 0 then (s, 0, 8)
  else (⟨s.l.put x.drum 0, s.k⟩, 0, 0)
end Go.Proofs.YtllpjcgadfmipaaGreat

/- What was used, by the document. -/
namespace Go.Proofs.YtllpjcgadfmipaaGreat
set_option linter.unusedVariables false
set_option linter.unusedSimpArgs false
open Abs

def rtoNil : Rto := ⟨SM.nil, SM.nil⟩
def rtoAt (l : List Ac) : Nat → Rto
  | 0 => rtoNil
  | k + 1 => (doR (rtoAt l k) (l.getD k acD)).1
theorem doR_ok {s : Rto} (hs : s.ok) (x : Ac) : (doR s x).1.ok := by
  unfold doR
  repeat' split
  all_goals first
    | exact hs
    | exact ⟨hs.l.put _ _, hs.k.put _ _⟩
    | exact ⟨hs.l.put _ _, hs.k⟩
theorem rtoAt_ok (l : List Ac) : ∀ k, (rtoAt l k).ok
  | 0 => ⟨SM.ok_nil, SM.ok_nil⟩
  | k + 1 => doR_ok (rtoAt_ok l k) _
end Go.Proofs.YtllpjcgadfmipaaGreat

/- Stock at a moment, by the document. -/
namespace Go.Proofs.YtllpjcgadfmipaaGreat
set_option linter.unusedVariables false
set_option linter.unusedSimpArgs false
open Abs

def cntAt (l : List Ac) (t : Int) : Nat := (l.takeWhile fun x => decide (x.mo ≤ t)).length
theorem cntAt_le (l : List Ac) (t : Int) : cntAt l t ≤ l.length := (List.takeWhile_prefix _).length_le
theorem cntAt_in {l : List Ac} {t : Int} {k : Nat} (h : k < cntAt l t) : (l[k]'(by have := cntAt_le l t; omega)).mo ≤ t := by
  have key : ∀ (l : List Ac) (k : Nat) (hk : k < l.length), k < (l.takeWhile fun x => decide (x.mo ≤ t)).length → l[k].mo ≤ t := by
    intro l
    induction l with
    | nil => intro k hk; simp at hk
    | cons a r ih =>
      intro k hk h
      by_cases ha : a.mo ≤ t
      · simp only [List.takeWhile_cons, ha, decide_true, if_true, List.length_cons] at h
        cases k with
        | zero => simpa using ha
        | succ k => simpa using ih k (by simpa using hk) (by omega)
      · simp [List.takeWhile_cons, ha] at h
  exact key l k _ h
theorem cntAt_out {l : List Ac} {t : Int} (h : cntAt l t < l.length) : t < (l[cntAt l t]).mo := by
  unfold cntAt at h ⊢
  induction l with
  | nil => simp at h
  | cons a r ih =>
    by_cases ha : a.mo ≤ t
    · simp only [List.takeWhile_cons, ha, decide_true, if_true, List.length_cons] at h ⊢
      simpa using ih (by simpa using h)
    · simp only [List.takeWhile_cons, ha, decide_false, Bool.false_eq_true, if_false, List.length_nil] at h ⊢
      simp; omega
end Go.Proofs.YtllpjcgadfmipaaGreat

/- Stock at a moment, by the document: the list. -/
namespace Go.Proofs.YtllpjcgadfmipaaGreat
set_option linter.unusedVariables false
set_option linter.unusedSimpArgs false
open Abs

abbrev LE := Nat × ByteArray × Int
def stE (s : Rto) (e : LE) : Pc := ⟨e.2.1, (s.k.get e.2.1).getD bE, e.2.2⟩
def stL (s : Rto) (es : List LE) : List Pc := (es.filter fun e => decide (0 < e.2.2)).map (stE s)
theorem stL_len (s : Rto) (es : List LE) : (stL s es).length ≤ es.length := by
  unfold stL; rw [List.length_map]; exact List.length_filter_le _ _
/-- metres of a type -/
def sumP (kind : ByteArray) : List Pc → Int
  | [] => 0
  | e :: r => (if e.kind = kind then e.long else 0) + sumP kind r
theorem sumP_perm (kind : ByteArray) {l m : List Pc} (h : l.Perm m) : sumP kind l = sumP kind m := by
  induction h with
  | nil => rfl
  | cons x _ ih => simp only [sumP, ih]
  | swap x y l => simp only [sumP]; omega
  | trans _ _ h1 h2 => exact h1.trans h2
theorem sumP_in (kind : ByteArray) : ∀ (l : List Pc), (∀ e ∈ l, 0 ≤ e.long ∧ e.long ≤ 200000) → 0 ≤ sumP kind l ∧ sumP kind l ≤ 200000 * l.length
  | [], _ => by simp [sumP]
  | e :: r, h => by
    have ih := sumP_in kind r (fun e he => h e (by simp [he]))
    have := h e (by simp)
    simp only [sumP, List.length_cons]
    split <;> omega
theorem sumP_take (kind : ByteArray) (l : List Pc) (k : Nat) (h : k < l.length) : sumP kind (l.take (k + 1)) = sumP kind (l.take k) + (if l[k].kind = kind then l[k].long else 0) := by
  induction l generalizing k with
  | nil => simp at h
  | cons a r ih =>
    cases k with
    | zero => simp [sumP]
    | succ k => simp only [List.take_succ_cons, sumP, ih k (by simpa using h), List.getElem_cons_succ]; omega
def LongR (s : Rto) : Prop := (∀ e ∈ s.l.es, 0 ≤ e.2.2 ∧ e.2.2 ≤ 200000) ∧ s.l.es.length ≤ 12
def ofR (l : List Ac) (kind : ByteArray) (t : Int) : Int := sumP kind (stL (rtoAt l (cntAt l t)) (rtoAt l (cntAt l t)).l.es)
def minI (a b : Int) : Int := if b < a then b else a
/-- the least, by the document -/
def leastR (l : List Ac) (kind : ByteArray) (w : Wi) : Nat → Int
  | 0 => ofR l kind w.1
  | k + 1 => if w.1 < (l.getD k acD).mo ∧ (l.getD k acD).mo < w.2 then minI (leastR l kind w k) (ofR l kind (l.getD k acD).mo) else leastR l kind w k
end Go.Proofs.YtllpjcgadfmipaaGreat

/- Errors of acts and windows, by the document. -/
namespace Go.Proofs.YtllpjcgadfmipaaGreat
set_option linter.unusedVariables false
set_option linter.unusedSimpArgs false
open Abs
set_option maxRecDepth 100000 in
set_option maxHeartbeats 4000000 in
theorem rMoment_pc (n : Int) : PCp 170 [.c (.int .i64 n)] [] (.c (.bool (momB n))) [] := by
  refine fn_sound (mt := mts) tab_fits tab_mixed Tryz.func170 (by rfl) (by kernel_rfl) (by kernel_rfl) Tryz.results170 (Nat.le_of_ble_eq_true (by kernel_rfl)) ?_
  conv => whnf
  repeat' (first | (refine Split.mk (fun h => ?_) (fun h => ?_) <;> (try simp only [decide_eq_true_eq, decide_eq_false_iff_not, Bool.not_eq_true', Bool.not_eq_false', beq_iff_eq, beq_eq_false_iff_ne] at h) <;> (first | (exfalso; first | omega | exact h trivial) | (conv => whnf))) | (refine CondG.mk (fun h => ?_) (fun h => ?_) <;> (try simp only [decide_eq_true_eq, decide_eq_false_iff_not, Bool.not_eq_true', Bool.not_eq_false', beq_iff_eq, beq_eq_false_iff_ne] at h) <;> (first | (exfalso; first | omega | exact h trivial) | (conv => whnf))) | (refine CallX.mk _ _ (by first | exact rIn_pc _ _ _) ?_; conv => whnf) | (refine CallG.mk _ _ (by first | exact rIn_pc _ _ _) ?_; conv => whnf) | (refine Ask.mk (by first | omega | (unfold roomOK; simp [cutRows]; done) | (unfold roomOK; simp [cutRows]; omega)) ?_; conv => whnf) | (refine AppG.mk (by first | omega | (unfold roomOK; simp [cutRows]; done) | (unfold roomOK; simp [cutRows]; omega)) ?_; conv => whnf) | (refine SliceG.fr ?_; conv => whnf) | fail)
  exact finb (by unfold momB; rfl)
set_option maxRecDepth 100000 in
set_option maxHeartbeats 4000000 in
theorem rActFault_pc (x : Ac) : PCp 124 [.agg (encAc x)] [] (.c (.int .i64 (actErr x))) [] := by
  refine fn_sound (mt := mts) tab_fits tab_mixed Tryz.func124 (by rfl) (by kernel_rfl) (by kernel_rfl) Tryz.results124 (Nat.le_of_ble_eq_true (by kernel_rfl)) ?_
  conv => whnf
  repeat' (first | (refine Split.mk (fun h => ?_) (fun h => ?_) <;> (try simp only [decide_eq_true_eq, decide_eq_false_iff_not, Bool.not_eq_true', Bool.not_eq_false', beq_iff_eq, beq_eq_false_iff_ne, bne_iff_ne, bne_eq_false_iff_eq] at h) <;> (first | (exfalso; first | omega | exact h trivial) | (conv => whnf))) | (refine CondG.mk (fun h => ?_) (fun h => ?_) <;> (try simp only [decide_eq_true_eq, decide_eq_false_iff_not, Bool.not_eq_true', Bool.not_eq_false', beq_iff_eq, beq_eq_false_iff_ne, bne_iff_ne, bne_eq_false_iff_eq] at h) <;> (first | (exfalso; first | omega | exact h trivial) | (conv => whnf))) | (refine CallX.mk _ _ (by first | exact rKey_pc _ | exact rMoment_pc _ | exact rIn_pc _ _ _) ?_; conv => whnf) | (refine CallG.mk _ _ (by first | exact rKey_pc _ | exact rMoment_pc _ | exact rIn_pc _ _ _) ?_; conv => whnf) | (refine Ask.mk (by first | omega | (unfold roomOK; simp [cutRows]; done) | (unfold roomOK; simp [cutRows]; omega) | (simp [cutRows]; done) | (simp [cutRows]; omega)) ?_; conv => whnf) | (refine AppG.mk (by first | omega | (unfold roomOK; simp [cutRows]; done) | (unfold roomOK; simp [cutRows]; omega) | (simp [cutRows]; done) | (simp [cutRows]; omega)) ?_; conv => whnf) | (refine SliceG.fr ?_; conv => whnf) | (refine idx_at _ (by with_reducible rfl) (by first | assumption | omega) ?_; conv => whnf) | ((with_reducible refine row_map (by first | assumption | omega) ?_); conv => whnf) | ((with_reducible refine row_set (by first | assumption | omega | (simp only [List.length_set]; omega) | (simp; omega)) ?_); conv => whnf) | fail)
  all_goals refine fini ?_
  all_goals unfold actErr
  all_goals generalize (⟨#[]⟩ : ByteArray).toList = nl at *
  all_goals (try simp only [eqRes] at *)
  all_goals first | (simp_all; done) | (simp_all; omega) | ((repeat' split) <;> first | rfl | (exfalso; first | omega | (simp_all; done) | (simp_all; omega)))
theorem cmpB_swap : ∀ a b : List UInt8, Lib.compareBytes a b = - Lib.compareBytes b a
  | [], [] => rfl
  | [], _ :: _ => rfl
  | _ :: _, [] => rfl
  | x :: xs, y :: ys => by
    have ih := cmpB_swap xs ys
    unfold Lib.compareBytes
    repeat' split
    all_goals first
      | rfl
      | exact ih
      | (exfalso; simp_all [UInt8.lt_iff_toNat_lt]; omega)
      | (exfalso; simp_all)
theorem cmpB_zero : ∀ a b : List UInt8, Lib.compareBytes a b = 0 ↔ a = b
  | [], [] => by simp [Lib.compareBytes]
  | [], _ :: _ => by simp [Lib.compareBytes]
  | _ :: _, [] => by simp [Lib.compareBytes]
  | x :: xs, y :: ys => by
    have ih := cmpB_zero xs ys
    unfold Lib.compareBytes
    split
    · rename_i h
      constructor
      · intro e; cases e
      · intro e; cases e; exact absurd h (UInt8.lt_irrefl x)
    · split
      · rename_i h
        constructor
        · intro e; cases e
        · intro e; cases e; exact absurd h (UInt8.lt_irrefl x)
      · rename_i h1 h2
        have hxy : x = y := by
          rw [UInt8.lt_iff_toNat_lt] at h1 h2
          exact UInt8.toNat_inj.1 (by omega)
        rw [ih, hxy]; simp
theorem cmpS_swap (a b : ByteArray) : cmpS a b = - cmpS b a := cmpB_swap ..
theorem cmpS_zero {a b : ByteArray} : cmpS a b = 0 ↔ a = b := by
  unfold cmpS
  rw [cmpB_zero]
  exact ⟨fun h => ByteArray.ext (Array.toList_inj.1 h), fun h => by rw [h]⟩
theorem cmpI_zero {a b : Int} : cmpI a b = 0 ↔ a = b := by unfold cmpI; repeat' split <;> omega
theorem sgn_sub {a b : Int} (ha : -1000000000000 ≤ a ∧ a ≤ 1000000000000) (hb : -1000000000000 ≤ b ∧ b ≤ 1000000000000) : sgn (IntKind.i64.wrap (a - b)) = cmpI a b := by
  rw [wrap_in (by omega) (by omega)]
  unfold sgn cmpI
  repeat' split
  all_goals omega
theorem actErr_in {x : Ac} (h : actErr x = 0) : 0 ≤ x.mo ∧ x.mo ≤ 345686399999 ∧ 1 ≤ x.kd ∧ x.kd ≤ 4 ∧ 0 ≤ x.long ∧ x.long ≤ 200000 ∧ (x.kd ≠ 4 → 1 ≤ x.long) ∧ keyB x.drum = true ∧ (x.kd = 1 → keyB x.ty = true) ∧ (x.kd = 3 → keyB x.of = true) := by
  unfold actErr at h
  split at h
  · cases h
  split at h
  · cases h
  split at h
  · cases h
  split at h
  · cases h
  split at h
  · cases h
  rename_i h1 h2 h3 h4 h5
  have h1 : momB x.mo = true := by simpa using h1
  have h1 := of_decide_eq_true h1
  simp only [Bool.or_eq_true, not_or, Bool.not_eq_true', Bool.not_eq_false, Bool.and_eq_true, beq_iff_eq, not_and] at h3
  refine ⟨h1.1, h1.2, by omega, by omega, by omega, by omega, by omega, h3.1.1, ?_, ?_⟩
  · intro e; simpa using h3.1.2 e
  · intro e; simpa using h3.2 e
/-- both orders are one -/
theorem ord_time {x y : Ac} (hx : actErr x = 0) (hy : actErr y = 0) : ordC y x = timeC y x ∧ timeC y x = - timeC x y := by
  have a := actErr_in hx
  have b := actErr_in hy
  have e1 := sgn_sub (a := y.mo) (b := x.mo) (by omega) (by omega)
  have e2 := sgn_sub (a := y.kd) (b := x.kd) (by omega) (by omega)
  have e3 := sgn_sub (a := y.long) (b := x.long) (by omega) (by omega)
  have w : ∀ p q : Int, cmpI p q = - cmpI q p := by intro p q; unfold cmpI; repeat' split <;> omega
  constructor
  · unfold ordC timeC
    rw [e1, e2, e3]
    simp only [firstErr, cmpI_zero, cmpS_zero]
    have hl : (if y.long = x.long then (0 : Int) else cmpI y.long x.long) = cmpI y.long x.long := by
      split
      · rename_i e; exact (cmpI_zero.2 e).symm
      · rfl
    rw [hl]
    by_cases h1 : y.mo = x.mo
    · rw [if_neg (fun h => h h1), if_pos h1]
      by_cases h2 : y.drum = x.drum
      · rw [if_neg (fun h => h h2), if_pos h2]
        by_cases h3 : y.kd = x.kd
        · rw [if_neg (fun h => h h3), if_pos h3]
          by_cases h4 : y.ty = x.ty
          · rw [if_neg (fun h => h h4), if_pos h4]
            by_cases h5 : y.of = x.of
            · rw [if_neg (fun h => h h5), if_pos h5]
            · rw [if_pos h5, if_neg h5]
          · rw [if_pos h4, if_neg h4]
        · rw [if_pos h3, if_neg h3]
      · rw [if_pos h2, if_neg h2]
    · rw [if_pos h1, if_neg h1]
  · have key : ∀ l : List Int, firstErr (l.map fun z => -z) = - firstErr l := by
      intro l
      induction l with
      | nil => rfl
      | cons a r ih =>
        simp only [List.map_cons, firstErr, ih, Int.neg_eq_zero]
        split <;> rfl
    unfold timeC
    rw [w y.mo x.mo, cmpS_swap y.drum x.drum, w y.kd x.kd, cmpS_swap y.ty x.ty, cmpS_swap y.of x.of, w y.long x.long]
    exact key [cmpI x.mo y.mo, cmpS x.drum y.drum, cmpI x.kd y.kd, cmpS x.ty y.ty, cmpS x.of y.of, cmpI x.long y.long]
set_option maxRecDepth 100000 in
set_option maxHeartbeats 4000000 in
theorem rActs_pc (l : List Ac) : PCp 70 [.c (.lst 6 (l.map encAc))] [] (.c (.int .i64 (actsFault l))) [] := by
  have hlm : (l.map encAc).length = l.length := List.length_map ..
  refine fn_sound (mt := mts) tab_fits tab_mixed Tryz.func70 (by rfl) (by kernel_rfl) (by kernel_rfl) Tryz.results70 (Nat.le_of_ble_eq_true (by kernel_rfl)) ?_
  conv => whnf
  repeat' (first | (refine Split.mk (fun h => ?_) (fun h => ?_) <;> (try simp only [decide_eq_true_eq, decide_eq_false_iff_not, Bool.not_eq_true', Bool.not_eq_false', beq_iff_eq, beq_eq_false_iff_ne, bne_iff_ne, bne_eq_false_iff_eq] at h) <;> (first | (exfalso; first | omega | exact h trivial) | (conv => whnf))) | (refine CondG.mk (fun h => ?_) (fun h => ?_) <;> (try simp only [decide_eq_true_eq, decide_eq_false_iff_not, Bool.not_eq_true', Bool.not_eq_false', beq_iff_eq, beq_eq_false_iff_ne, bne_iff_ne, bne_eq_false_iff_eq] at h) <;> (first | (exfalso; first | omega | exact h trivial) | (conv => whnf))) | (refine Ask.mk (by first | omega | (unfold roomOK; simp [cutRows]; done) | (unfold roomOK; simp [cutRows]; omega) | (simp [cutRows]; done) | (simp [cutRows]; omega)) ?_; conv => whnf) | (refine AppG.mk (by first | omega | (unfold roomOK; simp [cutRows]; done) | (unfold roomOK; simp [cutRows]; omega) | (simp [cutRows]; done) | (simp [cutRows]; omega)) ?_; conv => whnf) | (refine SliceG.fr ?_; conv => whnf) | (refine idx_at _ (by with_reducible rfl) (by first | assumption | omega) ?_; conv => whnf) | ((with_reducible refine row_map (by first | assumption | omega) ?_); conv => whnf) | ((with_reducible refine row_set (by first | assumption | omega | (simp only [List.length_set]; omega) | (simp; omega)) ?_); conv => whnf) | fail)
  · exact fini (by rw [actsFault, if_pos (by omega)])
  have hF : actsFault l = actsErr none l := by rw [actsFault, if_neg (by omega)]
  refine loop_count (l.length) [] [0, 9, 10, 11] (fun k (_ : Unit) => ⟨[(0, .c (.lst 6 (l.map encAc))), (9, .c (.lst 6 (l.map encAc))), (10, .c (.int .i64 (l.map encAc).length)), (11, .c (.int .i64 k))], [], 0⟩) (fun k (_ : Unit) => actsErr (prevAt l k) (l.drop k) = actsErr none l ∧ ∀ i (h : i < l.length), i < k → actErr l[i] = 0) (()) ?_ ?_ ?_
  · conv => whnf
    exact ⟨rfl, rfl, by intro i h hi; omega⟩
  · intro k _ hk ⟨hi, hz⟩
    rw [drop_cons hk, actsErr] at hi
    have hp1 : prevAt l (k + 1) = some l[k] := by simp [prevAt, hk]
    have hz1 : actErr l[k] = 0 → ∀ i (h : i < l.length), i < k + 1 → actErr l[i] = 0 := by
      intro h0 i h hik
      rcases Nat.lt_or_ge i k with h3 | h3
      · exact hz i h h3
      · have : i = k := by omega
        subst this; exact h0
    conv => whnf
    repeat' (first | (refine Split.mk (fun h => ?_) (fun h => ?_) <;> (try simp only [decide_eq_true_eq, decide_eq_false_iff_not, Bool.not_eq_true', Bool.not_eq_false', beq_iff_eq, beq_eq_false_iff_ne, bne_iff_ne, bne_eq_false_iff_eq] at h) <;> (first | (exfalso; first | omega | exact h trivial) | (conv => whnf))) | (refine CondG.mk (fun h => ?_) (fun h => ?_) <;> (try simp only [decide_eq_true_eq, decide_eq_false_iff_not, Bool.not_eq_true', Bool.not_eq_false', beq_iff_eq, beq_eq_false_iff_ne, bne_iff_ne, bne_eq_false_iff_eq] at h) <;> (first | (exfalso; first | omega | exact h trivial) | (conv => whnf))) | (refine CallX.mk _ _ (by first | exact rActFault_pc _) ?_; conv => whnf) | (refine CallG.mk _ _ (by first | exact rActFault_pc _) ?_; conv => whnf) | (refine Ask.mk (by first | omega | (unfold roomOK; simp [cutRows]; done) | (unfold roomOK; simp [cutRows]; omega) | (simp [cutRows]; done) | (simp [cutRows]; omega)) ?_; conv => whnf) | (refine AppG.mk (by first | omega | (unfold roomOK; simp [cutRows]; done) | (unfold roomOK; simp [cutRows]; omega) | (simp [cutRows]; done) | (simp [cutRows]; omega)) ?_; conv => whnf) | (refine SliceG.fr ?_; conv => whnf) | (refine idx_at _ (by with_reducible rfl) (by first | assumption | omega) ?_; conv => whnf) | ((with_reducible refine row_map (by first | assumption | omega) ?_); conv => whnf) | ((with_reducible refine row_set (by first | assumption | omega | (simp only [List.length_set]; omega) | (simp; omega)) ?_); conv => whnf) | fail)
    · rw [if_pos h] at hi
      exact fini (by rw [hF, ← hi])
    · rename_i h0
      rw [if_neg (by simpa using h0)] at hi
      have h0 : actErr l[k] = 0 := by simpa using h0
      have hk1 : IntKind.i64.wrap ((k : Int) - 1) = ((k - 1 : Nat) : Int) := by rw [wrap_in (by omega) (by omega)]; omega
      have hp : prevAt l k = some (l[k - 1]'(by omega)) := by rw [prevAt, if_neg (by omega)]; exact List.getElem?_eq_getElem (by omega)
      rw [hp] at hi
      have ho := ord_time (x := l[k]) (y := l[k - 1]'(by omega)) h0 (hz (k - 1) (by omega) (by omega))
      refine idx_map (k - 1) (by omega) hk1 ?_
      conv => whnf
      repeat' (first | (refine Split.mk (fun h => ?_) (fun h => ?_) <;> (try simp only [decide_eq_true_eq, decide_eq_false_iff_not, Bool.not_eq_true', Bool.not_eq_false', beq_iff_eq, beq_eq_false_iff_ne, bne_iff_ne, bne_eq_false_iff_eq] at h) <;> (first | (exfalso; first | omega | exact h trivial) | (conv => whnf))) | (refine CondG.mk (fun h => ?_) (fun h => ?_) <;> (try simp only [decide_eq_true_eq, decide_eq_false_iff_not, Bool.not_eq_true', Bool.not_eq_false', beq_iff_eq, beq_eq_false_iff_ne, bne_iff_ne, bne_eq_false_iff_eq] at h) <;> (first | (exfalso; first | omega | exact h trivial) | (conv => whnf))) | (refine CallX.mk _ _ (by first | exact actOrder_pc _ _) ?_; conv => whnf) | (refine CallG.mk _ _ (by first | exact actOrder_pc _ _) ?_; conv => whnf) | (refine Ask.mk (by first | omega | (unfold roomOK; simp [cutRows]; done) | (unfold roomOK; simp [cutRows]; omega) | (simp [cutRows]; done) | (simp [cutRows]; omega)) ?_; conv => whnf) | (refine AppG.mk (by first | omega | (unfold roomOK; simp [cutRows]; done) | (unfold roomOK; simp [cutRows]; omega) | (simp [cutRows]; done) | (simp [cutRows]; omega)) ?_; conv => whnf) | (refine SliceG.fr ?_; conv => whnf) | (refine idx_at _ (by with_reducible rfl) (by first | assumption | omega) ?_; conv => whnf) | ((with_reducible refine row_map (by first | assumption | omega) ?_); conv => whnf) | ((with_reducible refine row_set (by first | assumption | omega | (simp only [List.length_set]; omega) | (simp; omega)) ?_); conv => whnf) | fail)
      · rw [if_pos (by simp only [badPrev, decide_eq_true_eq]; omega)] at hi
        exact fini (by rw [hF, ← hi])
      · rw [if_neg (by simp only [badPrev, decide_eq_true_eq]; omega)] at hi
        refine count_next () hk (by rw [wrap_succ hk (by omega)]; rfl) ?_
        exact ⟨by rw [hp1]; exact hi, hz1 h0⟩
    · have h0 : k = 0 := by omega
      have h1 : actErr l[k] = 0 := by simp_all
      subst h0
      rw [if_neg (by simp [h1]), if_neg (by simp [badPrev, prevAt])] at hi
      refine count_next () hk (by rw [wrap_succ hk (by omega)]; rfl) ?_
      exact ⟨by rw [hp1]; exact hi, hz1 h1⟩
  · intro _ ⟨hi, _⟩
    rw [List.drop_of_length_le (Nat.le_refl _)] at hi
    conv => whnf
    repeat' (first | (refine Split.mk (fun h => ?_) (fun h => ?_) <;> (try simp only [decide_eq_true_eq, decide_eq_false_iff_not, Bool.not_eq_true', Bool.not_eq_false', beq_iff_eq, beq_eq_false_iff_ne] at h) <;> (first | (exfalso; first | omega | exact h trivial) | (conv => whnf))) | (refine CondG.mk (fun h => ?_) (fun h => ?_) <;> (try simp only [decide_eq_true_eq, decide_eq_false_iff_not, Bool.not_eq_true', Bool.not_eq_false', beq_iff_eq, beq_eq_false_iff_ne] at h) <;> (first | (exfalso; first | omega | exact h trivial) | (conv => whnf))) | (refine Ask.mk (by first | omega | (unfold roomOK; simp [cutRows]; done) | (unfold roomOK; simp [cutRows]; omega)) ?_; conv => whnf) | (refine AppG.mk (by first | omega | (unfold roomOK; simp [cutRows]; done) | (unfold roomOK; simp [cutRows]; omega)) ?_; conv => whnf) | (refine SliceG.fr ?_; conv => whnf) | fail)
    exact fini (by rw [hF, ← hi]; rfl)
end Go.Proofs.YtllpjcgadfmipaaGreat

/- The two stores are one. -/
namespace Go.Proofs.YtllpjcgadfmipaaGreat
set_option linter.unusedVariables false
set_option linter.unusedSimpArgs false
open Abs

section
variable {κ β : Type} [DecidableEq κ]
theorem get_of_mem {s : SM κ β} (h : s.ok) {e : Nat × κ × β} (he : e ∈ s.es) : s.get e.2.1 = some e.2.2 := by
  have hk := h.kn
  unfold SM.get SM.m at *
  generalize s.es = es at he hk
  clear h
  induction es with
  | nil => cases he
  | cons a r ih =>
    simp only [List.map_cons, List.nodup_cons] at hk
    rcases List.mem_cons.1 he with rfl | he
    · simp [mget]
    · have hne : ¬ a.2.1 = e.2.1 := by
        intro h2
        exact hk.1 (by rw [h2]; exact List.mem_map.2 ⟨e.2, List.mem_map.2 ⟨e, he, rfl⟩, rfl⟩)
      have := ih he hk.2
      simpa [mget, List.find?_cons, hne] using this
theorem mem_of_get {s : SM κ β} {x : κ} {y : β} (h : s.get x = some y) : ∃ n, (n, x, y) ∈ s.es := by
  unfold SM.get SM.m at h
  generalize s.es = es at h
  induction es with
  | nil => simp [mget] at h
  | cons a r ih =>
    by_cases hx : a.2.1 = x
    · have hy : a.2.2 = y := by simpa [mget, List.find?_cons, hx] using h
      exact ⟨a.1, by rw [← hx, ← hy]; simp⟩
    · obtain ⟨n, hn⟩ := ih (by simpa [mget, List.find?_cons, hx] using h)
      exact ⟨n, by simp [hn]⟩
end
/-- what the program's store has, by the document's -/
def seen (r : Rto) (d : ByteArray) : Option (ByteArray × Int) := if 0 < (r.l.get d).getD 0 then some ((r.k.get d).getD bE, (r.l.get d).getD 0) else none
structure Rel (s : Sto) (r : Rto) : Prop where
  k : ∀ d, s.k.get d = r.k.get d
  d : ∀ d, s.d.get d = seen r d
  n : ∀ d, 0 ≤ (r.l.get d).getD 0 ∧ (r.l.get d).getD 0 ≤ 200000
  h : ∀ d, 0 < (r.l.get d).getD 0 → (r.k.get d).isSome = true
theorem rel_nil : Rel stoNil rtoNil := ⟨fun _ => rfl, fun _ => rfl, fun _ => ⟨by show (0 : Int) ≤ 0; decide, by show (0 : Int) ≤ 200000; decide⟩, fun d h => by have : (0 : Int) < 0 := h; omega⟩
theorem rel_step {s : Sto} {r : Rto} (hs : s.ok) (h : Rel s r) {x : Ac} (hx : actErr x = 0) :
    Rel (takeS s x).1 (doR r x).1 ∧ (takeS s x).2.2 = (doR r x).2.2 ∧ ((doR r x).2.2 = 0 → (takeS s x).2.1 = ((doR r x).1.k.get x.drum).getD bE ∧ (doR r x).2.1 = if x.kd = 2 then x.long else if x.kd = 3 then - x.long else 0) := by
  have a := actErr_in hx
  have hk := h.k x.drum
  have ho := h.k x.of
  have hd := h.d x.drum
  have hn := h.n x.drum
  have hh := h.h x.drum
  have hwn : IntKind.i64.wrap (0 - x.long) = - x.long := by rw [wrap_in (by omega) (by omega)]; omega
  have hput : ∀ (t : ByteArray) (n : Int), 0 < n → n ≤ 200000 → Rel ⟨s.d.put x.drum (t, n), s.k.put x.drum t⟩ ⟨r.l.put x.drum n, r.k.put x.drum t⟩ := by
    intro t n h1 h2
    refine ⟨fun d => ?_, fun d => ?_, fun d => ?_, fun d => ?_⟩
    · rw [SM.get_put, SM.get_put, h.k d]
    · simp only [seen, SM.get_put]
      split
      · simp [h1]
      · rw [h.d d]; rfl
    · simp only [SM.get_put]
      split
      · simp; omega
      · exact h.n d
    · simp only [SM.get_put]
      split
      · simp
      · exact h.h d
  by_cases k1 : x.kd = 1
  · have hne : takeS s x = if (s.k.get x.drum).isSome then (s, bE, 6) else (⟨s.d.put x.drum (x.ty, x.long), s.k.put x.drum x.ty⟩, x.ty, 0) := by
      unfold takeS; rw [if_pos (.inl k1)]; simp only [k1, if_true]
    have hre : doR r x = if (r.k.get x.drum).isSome then (r, 0, 6) else (⟨r.l.put x.drum x.long, r.k.put x.drum x.ty⟩, 0, 0) := by
      unfold doR; rw [if_pos k1]
    rw [hne, hre, hk]
    split
    · exact ⟨h, rfl, fun e => by cases e⟩
    · exact ⟨hput _ _ (by omega) (by omega), rfl, fun _ => ⟨by simp [SM.get_put], by simp [k1]⟩⟩
  by_cases k3 : x.kd = 3
  · have hne : takeS s x = if (s.k.get x.drum).isSome then (s, bE, 6) else if (s.k.get x.of).isSome then (⟨s.d.put x.drum ((s.k.get x.of).getD bE, x.long), s.k.put x.drum ((s.k.get x.of).getD bE)⟩, (s.k.get x.of).getD bE, 0) else (s, bE, 8) := by
      unfold takeS; rw [if_pos (.inr k3)]; simp only [k1, if_false]
    have hre : doR r x = if (r.k.get x.drum).isSome then (r, 0, 6) else if (r.k.get x.of).isSome then (⟨r.l.put x.drum x.long, r.k.put x.drum ((r.k.get x.of).getD bE)⟩, IntKind.i64.wrap (0 - x.long), 0) else (r, 0, 8) := by
      unfold doR; rw [if_neg k1, if_neg (by omega), if_pos k3]
    rw [hne, hre, hk, ho]
    split
    · exact ⟨h, rfl, fun e => by cases e⟩
    · split
      · exact ⟨hput _ _ (by omega) (by omega), rfl, fun _ => ⟨by simp [SM.get_put], by rw [hwn]; simp [k3]⟩⟩
      · exact ⟨h, rfl, fun e => by cases e⟩
  have hin : (s.d.get x.drum).isSome = decide (0 < (r.l.get x.drum).getD 0) := by
    rw [hd]; unfold seen; split <;> simp_all
  have hne : takeS s x = if (s.d.get x.drum).isSome then (if x.kd = 2 ∧ ((s.d.get x.drum).getD (bE, 0)).2 < x.long then (s, bE, 12)
    else if x.kd = 4 ∨ IntKind.i64.wrap (((s.d.get x.drum).getD (bE, 0)).2 - x.long) = 0 then (⟨s.d.del x.drum, s.k⟩, ((s.d.get x.drum).getD (bE, 0)).1, 0)
    else (⟨s.d.put x.drum (((s.d.get x.drum).getD (bE, 0)).1, IntKind.i64.wrap (((s.d.get x.drum).getD (bE, 0)).2 - x.long)), s.k⟩, ((s.d.get x.drum).getD (bE, 0)).1, 0)) else (s, bE, 8) := by
    unfold takeS; rw [if_neg (by omega)]
  rw [hne, hin]
  by_cases h0 : 0 < (r.l.get x.drum).getD 0
  · have hv : (s.d.get x.drum).getD (bE, 0) = ((r.k.get x.drum).getD bE, (r.l.get x.drum).getD 0) := by rw [hd, seen, if_pos h0]; rfl
    rw [hv]
    generalize hg : (r.l.get x.drum).getD 0 = n at *
    have hw : IntKind.i64.wrap (n - x.long) = n - x.long := wrap_in (by omega) (by omega)
    simp only [h0, decide_true, if_true, hw]
    -- what is left of a drum
    have hres : ∀ m : Int, 0 ≤ m → m ≤ 200000 → Rel ⟨if m = 0 then s.d.del x.drum else s.d.put x.drum ((r.k.get x.drum).getD bE, m), s.k⟩ ⟨r.l.put x.drum m, r.k⟩ := by
      intro m m0 m1
      refine ⟨fun d => h.k d, fun d => ?_, fun d => ?_, fun d => ?_⟩
      · simp only [seen, SM.get_put]
        split
        · rename_i e
          rw [SM.get_del hs.d]
          by_cases hxd : x.drum = d
          · simp [hxd, e]
          · simp only [if_neg hxd]; rw [h.d d]; rfl
        · rename_i e
          rw [SM.get_put]
          by_cases hxd : x.drum = d
          · subst hxd; simp; omega
          · simp only [if_neg hxd]; rw [h.d d]; rfl
      · simp only [SM.get_put]
        split
        · simp; omega
        · exact h.n d
      · simp only [SM.get_put]
        split
        · rename_i e; intro _; rw [← e]; exact hh h0
        · exact h.h d
    by_cases k2 : x.kd = 2
    · have hre : doR r x = if n < x.long then (r, 0, 12) else (⟨r.l.put x.drum (n - x.long), r.k⟩, x.long, 0) := by
        unfold doR; rw [if_neg k1, if_pos k2, hg, if_neg (by omega), hw]
      rw [hre]
      by_cases hlt : n < x.long
      · rw [if_pos ⟨k2, hlt⟩, if_pos hlt]; exact ⟨h, rfl, fun e => by cases e⟩
      · rw [if_neg (fun e => hlt e.2), if_neg hlt]
        have hr := hres (n - x.long) (by omega) (by omega)
        by_cases hz : n - x.long = 0
        · rw [if_pos (.inr hz)]; rw [if_pos hz] at hr; exact ⟨hr, rfl, fun _ => ⟨rfl, by simp [k2]⟩⟩
        · rw [if_neg (by omega)]; rw [if_neg hz] at hr; exact ⟨hr, rfl, fun _ => ⟨rfl, by simp [k2]⟩⟩
    · have k4 : x.kd = 4 := by omega
      have hre : doR r x = (⟨r.l.put x.drum 0, r.k⟩, 0, 0) := by
        unfold doR; rw [if_neg k1, if_neg k2, if_neg k3, hg, if_neg (by omega)]
      rw [hre, if_neg (fun e => k2 e.1), if_pos (.inl k4)]
      have hr := hres 0 (by omega) (by omega)
      rw [if_pos rfl] at hr
      exact ⟨hr, rfl, fun _ => ⟨rfl, by simp [k4]⟩⟩
  · have hz : (r.l.get x.drum).getD 0 = 0 := by omega
    have hre : doR r x = (r, 0, 8) := by
      unfold doR; rw [if_neg k1]
      by_cases k2 : x.kd = 2
      · rw [if_pos k2, if_pos hz]
      · rw [if_neg k2, if_neg k3, if_pos hz]
    rw [hre]
    rw [show decide (0 < (r.l.get x.drum).getD 0) = false from decide_eq_false h0]
    exact ⟨h, rfl, fun e => by cases e⟩
theorem actsErr_all : ∀ (l : List Ac) (p : Option Ac), actsErr p l = 0 → ∀ x ∈ l, actErr x = 0
  | [], _, _, x, hx => by cases hx
  | y :: r, p, h, x, hx => by
    unfold actsErr at h
    split at h
    · rename_i h1; exact absurd h h1
    · split at h
      · cases h
      · rename_i h1 h2
        rcases List.mem_cons.1 hx with rfl | hx
        · simpa using h1
        · exact actsErr_all r _ h x hx
theorem actsFault_all {l : List Ac} (h : actsFault l = 0) : l.length ≤ 2000 ∧ ∀ x ∈ l, actErr x = 0 := by
  unfold actsFault at h
  split at h
  · cases h
  · exact ⟨by omega, actsErr_all l _ h⟩
theorem rel_at {l : List Ac} (h : actsFault l = 0) : ∀ k, k ≤ l.length → Rel (stoAt l k) (rtoAt l k)
  | 0, _ => rel_nil
  | k + 1, hk => by
    have hg : l.getD k acD = l[k]'(by omega) := by simp [show k < l.length by omega]
    have := (rel_step (stoAt_ok l k) (rel_at h k (by omega)) ((actsFault_all h).2 _ (List.getElem_mem (show k < l.length by omega)))).1
    rw [stoAt, rtoAt, hg]
    exact this
end Go.Proofs.YtllpjcgadfmipaaGreat

/- Sums over both stores. -/
namespace Go.Proofs.YtllpjcgadfmipaaGreat
set_option linter.unusedVariables false
set_option linter.unusedSimpArgs false
open Abs

def dPc (e : DE) : Pc := ⟨e.2.1, e.2.2.1, e.2.2.2⟩
theorem sumK_P (kind : ByteArray) : ∀ l : List DE, sumK kind l = sumP kind (l.map dPc)
  | [] => rfl
  | e :: r => by simp only [sumK, List.map_cons, sumP, sumK_P kind r, dPc]; omega
theorem keys_nd {α : Type} [DecidableEq α] {β : Type} {s : SM α β} (h : s.ok) : (s.es.map (·.2.1)).Nodup := by
  have := h.kn
  rw [SM.m, List.map_map] at this
  exact this
theorem sto_perm {s : Sto} {r : Rto} (hs : s.ok) (hr : r.ok) (h : Rel s r) : (s.d.es.map dPc).Perm (stL r r.l.es) := by
  have n1 : (s.d.es.map dPc).Nodup := by
    refine nodup_of_map (f := Pc.key) ?_
    rw [List.map_map]
    exact keys_nd hs.d
  have n2 : (stL r r.l.es).Nodup := by
    refine nodup_of_map (f := Pc.key) ?_
    unfold stL
    rw [List.map_map]
    exact ((List.filter_sublist).map _).nodup (keys_nd hr.l)
  refine perm_of_nodup n1 n2 fun p => ?_
  have e1 : p ∈ s.d.es.map dPc ↔ s.d.get p.key = some (p.kind, p.long) := by
    constructor
    · intro hp
      obtain ⟨e, he, rfl⟩ := List.mem_map.1 hp
      exact get_of_mem hs.d he
    · intro hp
      obtain ⟨n, hn⟩ := mem_of_get hp
      exact List.mem_map.2 ⟨_, hn, rfl⟩
  have e2 : p ∈ stL r r.l.es ↔ seen r p.key = some (p.kind, p.long) := by
    unfold stL seen
    constructor
    · intro hp
      obtain ⟨e, he, rfl⟩ := List.mem_map.1 hp
      obtain ⟨he1, he2⟩ := List.mem_filter.1 he
      have hg := get_of_mem hr.l he1
      have he2 : 0 < e.2.2 := by simpa using he2
      show (if 0 < (r.l.get e.2.1).getD 0 then some ((r.k.get e.2.1).getD bE, (r.l.get e.2.1).getD 0) else none) = _
      rw [hg]
      simp only [Option.getD_some, if_pos he2]
      rfl
    · intro hp
      split at hp
      · rename_i h0
        cases hg : r.l.get p.key with
        | none => rw [hg] at h0; simp at h0
        | some n =>
          rw [hg] at hp h0
          simp only [Option.getD_some, Option.some.injEq, Prod.mk.injEq] at hp h0
          obtain ⟨m, hm⟩ := mem_of_get hg
          refine List.mem_map.2 ⟨_, List.mem_filter.2 ⟨hm, by simpa using h0⟩, ?_⟩
          obtain ⟨a, b, c⟩ := p
          simp only at hp
          simp only [stE, Pc.mk.injEq, true_and]
          exact hp
      · cases hp
  rw [e1, e2, h.d]
theorem sum_eq {s : Sto} {r : Rto} (hs : s.ok) (hr : r.ok) (h : Rel s r) (kind : ByteArray) : sumK kind s.d.es = sumP kind (stL r r.l.es) := by
  rw [sumK_P]; exact sumP_perm kind (sto_perm hs hr h)
theorem eput_len {κ β : Type} [DecidableEq κ] (c : Nat) : ∀ (es : List (Nat × κ × β)) (x : κ) (y : β), (eput c es x y).length ≤ es.length + 1
  | [], _, _ => by simp [eput]
  | e :: r, x, y => by
    unfold eput
    split
    · simp
    · have := eput_len c r x y; simp; omega
theorem rto_len (l : List Ac) : ∀ k, (rtoAt l k).l.es.length ≤ k
  | 0 => Nat.le_refl _
  | k + 1 => by
    have ih := rto_len l k
    rw [rtoAt]
    unfold doR
    repeat' split
    all_goals first
      | (simp only; omega)
      | (have := fun y => eput_len (rtoAt l k).l.clock (rtoAt l k).l.es (l.getD k acD).drum y
         exact Nat.le_trans (this _) (by omega))
theorem rto_names {names : List ByteArray} {l : List Ac} (hn : ∀ x ∈ l, x.drum ∈ names) : ∀ k, k ≤ l.length → ∀ e ∈ (rtoAt l k).l.es, e.2.1 ∈ names
  | 0, _ => by intro e he; cases he
  | k + 1, hk => by
    have ih := rto_names hn k (by omega)
    have hkl : k < l.length := by omega
    have hg : l.getD k acD = l[k] := by simp [hkl]
    have hp : ∀ y, ∀ e ∈ ((rtoAt l k).l.put l[k].drum y).es, e.2.1 ∈ names := by
      intro y e he
      rcases eput_mem he with h | h
      · exact ih e h
      · rw [h]; exact hn _ (List.getElem_mem hkl)
    rw [rtoAt, hg]
    unfold doR
    repeat' split
    all_goals first | exact ih | exact hp _
theorem longR_at {names : List ByteArray} (h12 : names.length ≤ 12) {l : List Ac} (hn : ∀ x ∈ l, x.drum ∈ names) (hf : actsFault l = 0) (k : Nat) (hk : k ≤ l.length) : LongR (rtoAt l k) := by
  refine ⟨fun e he => ?_, ?_⟩
  · have h1 := (rel_at hf k hk).n e.2.1
    rw [get_of_mem (rtoAt_ok l k).l he] at h1
    exact h1
  · have h1 := nodup_sub_len (keys_nd (rtoAt_ok l k).l) (m := names) (by
      intro x hx
      obtain ⟨e, he, rfl⟩ := List.mem_map.1 hx
      exact rto_names hn k hk e he)
    rw [List.length_map] at h1
    omega
theorem longOk_at {l : List Ac} (hf : actsFault l = 0) (k : Nat) (hk : k ≤ l.length) : LongOk (stoAt l k) := by
  have hr := rel_at hf k hk
  refine ⟨fun e he => ?_, ?_⟩
  · have h1 := get_of_mem (stoAt_ok l k).d he
    rw [hr.d] at h1
    unfold seen at h1
    split at h1
    · rename_i h0
      have h2 := hr.n e.2.1
      simp only [Option.some.injEq] at h1
      rw [← h1]
      exact ⟨h0, h2.2⟩
    · cases h1
  · have h1 := (sto_perm (stoAt_ok l k) (rtoAt_ok l k) hr).length_eq
    have h2 := stL_len (rtoAt l k) (rtoAt l k).l.es
    have h3 := rto_len l k
    have h4 := (actsFault_all hf).1
    rw [List.length_map] at h1
    omega
end Go.Proofs.YtllpjcgadfmipaaGreat

/- The least stock: both say the same. -/
namespace Go.Proofs.YtllpjcgadfmipaaGreat
set_option linter.unusedVariables false
set_option linter.unusedSimpArgs false
open Abs

abbrev moN (l : List Ac) (k : Nat) : Int := (l.getD k acD).mo
theorem moN_at {l : List Ac} {k : Nat} (h : k < l.length) : moN l k = l[k].mo := by simp [moN, h]
theorem acts_adj : ∀ (l : List Ac) (p : Option Ac), actsErr p l = 0 → ∀ k (h : k + 1 < l.length), l[k].mo ≤ l[k + 1].mo
  | [], _, _, k, h => by simp at h
  | [a], _, _, k, h => by simp at h
  | a :: b :: r, p, he, k, h => by
    unfold actsErr at he
    split at he
    · rename_i h1; exact absurd he h1
    · split at he
      · cases he
      · cases k with
        | zero =>
          unfold actsErr at he
          split at he
          · rename_i h1; exact absurd he h1
          · split at he
            · cases he
            · rename_i h2
              simp only [badPrev, decide_eq_true_eq] at h2
              show a.mo ≤ b.mo
              rcases Int.lt_or_le b.mo a.mo with h3 | h3
              · exfalso
                apply h2
                have h4 : cmpI b.mo a.mo = -1 := by unfold cmpI; rw [if_pos h3]
                unfold timeC firstErr
                rw [h4, if_neg (by decide)]; decide
              · exact h3
        | succ k => exact acts_adj (b :: r) _ he k (by simpa using h)
theorem acts_sorted {l : List Ac} (hf : actsFault l = 0) (i : Nat) : ∀ j, i ≤ j → j < l.length → moN l i ≤ moN l j := by
  have ha : actsErr none l = 0 := by
    have := hf; unfold actsFault at this; split at this
    · cases this
    · exact this
  intro j
  induction j with
  | zero => intro h1 h2; have : i = 0 := by omega
            subst this; exact Int.le_refl _
  | succ j ih =>
    intro h1 h2
    rcases Nat.lt_or_ge i (j + 1) with h3 | h3
    · have h4 := acts_adj l none ha j h2
      have h5 := ih (by omega) (by omega)
      rw [moN_at (show j < l.length by omega)] at h5
      rw [moN_at h2]; omega
    · have : i = j + 1 := by omega
      subst this; exact Int.le_refl _
theorem cnt_iff {l : List Ac} (hf : actsFault l = 0) {k : Nat} (hk : k < l.length) (t : Int) : moN l k ≤ t ↔ k < cntAt l t := by
  constructor
  · intro h
    rcases Nat.lt_or_ge k (cntAt l t) with h1 | h1
    · exact h1
    · exfalso
      have h2 : cntAt l t < l.length := by omega
      have h3 := cntAt_out h2
      have h4 := acts_sorted hf (cntAt l t) k h1 hk
      rw [moN_at h2] at h4
      omega
  · intro h
    rw [moN_at hk]; exact cntAt_in h
abbrev totT (l : List Ac) (kind : ByteArray) (k : Nat) : Int := sumK kind (stoAt l k).d.es
theorem ofR_eq {l : List Ac} (hf : actsFault l = 0) (kind : ByteArray) (t : Int) : ofR l kind t = totT l kind (cntAt l t) :=
  (sum_eq (stoAt_ok l _) (rtoAt_ok l _) (rel_at hf _ (cntAt_le l t)) kind).symm
theorem sumK_put {kind : ByteArray} {c : Nat} {x t : ByteArray} {n : Int} : ∀ {es : List DE}, (∀ e ∈ es, e.2.1 = x → e.2.2.1 ≠ kind) → t ≠ kind → sumK kind (eput c es x (t, n)) = sumK kind es
  | [], _, ht => by simp [eput, sumK, ht]
  | e :: r, h, ht => by
    unfold eput
    split
    · rename_i hx
      simp only [sumK, if_neg ht, if_neg (h e (by simp) hx)]
    · have ih := sumK_put (c := c) (n := n) (es := r) (fun e he => h e (List.mem_cons_of_mem _ he)) ht
      simp only [sumK, ih]
theorem sumK_del {kind : ByteArray} {x : ByteArray} : ∀ {es : List DE}, (∀ e ∈ es, e.2.1 = x → e.2.2.1 ≠ kind) → sumK kind (edel es x) = sumK kind es
  | [], _ => rfl
  | e :: r, h => by
    unfold edel
    split
    · rename_i hx
      simp only [sumK, if_neg (h e (by simp) hx)]; omega
    · have ih := sumK_del (es := r) (fun e he => h e (List.mem_cons_of_mem _ he))
      simp only [sumK, ih]
/-- an act of another type changes nothing of this one -/
theorem tot_other {s : Sto} {r : Rto} (hs : s.ok) (h : Rel s r) (kind : ByteArray) (x : Ac) (hne : ¬ ((takeS s x).2.2 = 0 ∧ (takeS s x).2.1 = kind)) : sumK kind (takeS s x).1.d.es = sumK kind s.d.es := by
  have hnone : (s.k.get x.drum).isSome = false → ∀ e ∈ s.d.es, e.2.1 = x.drum → e.2.2.1 ≠ kind := by
    intro h1 e he hx
    exfalso
    have h2 := get_of_mem hs.d he
    rw [hx, h.d] at h2
    unfold seen at h2
    split at h2
    · rename_i h3
      have := h.h _ h3
      rw [h.k] at h1
      rw [this] at h1; cases h1
    · cases h2
  have hthis : ((s.d.get x.drum).getD (bE, 0)).1 ≠ kind → ∀ e ∈ s.d.es, e.2.1 = x.drum → e.2.2.1 ≠ kind := by
    intro h1 e he hx
    have h2 := get_of_mem hs.d he
    rw [hx] at h2
    rw [h2] at h1
    exact h1
  revert hne
  unfold takeS
  split
  · split
    · intro _; rfl
    · rename_i h1
      have h1 : (s.k.get x.drum).isSome = false := by simpa using h1
      split
      · intro hne; exact sumK_put (hnone h1) (fun e => hne ⟨rfl, e⟩)
      · split
        · intro hne; exact sumK_put (hnone h1) (fun e => hne ⟨rfl, e⟩)
        · intro _; rfl
  · split
    · split
      · intro _; rfl
      · split
        · intro hne; exact sumK_del (hthis (fun e => hne ⟨rfl, e⟩))
        · intro hne; exact sumK_put (hthis (fun e => hne ⟨rfl, e⟩)) (fun e => hne ⟨rfl, e⟩)
    · intro _; rfl
theorem minI_idem (a b : Int) : minI (minI a b) b = minI a b := by unfold minI; repeat' split <;> omega
/-- is the k-th act the last one of its moment? -/
abbrev lastM (l : List Ac) (k : Nat) : Prop := (k : Int) = (l.length : Int) - 1 ∨ moN l k < moN l (k + 1)
theorem last_cnt {l : List Ac} (hf : actsFault l = 0) {k : Nat} (hk : k < l.length) (h : lastM l k) : cntAt l (moN l k) = k + 1 := by
  have h1 := (cnt_iff hf hk (moN l k)).1 (Int.le_refl _)
  have h2 := cntAt_le l (moN l k)
  rcases Nat.lt_or_ge (k + 1) l.length with h3 | h3
  · have h4 := cnt_iff hf h3 (moN l k)
    rcases h with h | h
    · omega
    · have : ¬ k + 1 < cntAt l (moN l k) := fun e => by have := h4.2 e; omega
      omega
  · omega
/-- what both have behind some acts -/
theorem low_inv {l : List Ac} (hf : actsFault l = 0) (kind : ByteArray) (w : Wi) (hw : w.1 < w.2) : ∀ k, k ≤ l.length →
    (lowAt l kind w k).now = totT l kind (min k (cntAt l (w.2 - 1))) ∧ (lowAt l kind w k).begun = decide (cntAt l w.1 < k) ∧
    ((lowAt l kind w k).begun = false → leastR l kind w k = totT l kind (cntAt l w.1)) ∧
    ((lowAt l kind w k).begun = true → (cntAt l (w.2 - 1) < k ∨ lastM l (k - 1) → leastR l kind w k = (lowAt l kind w k).least) ∧ (¬ (cntAt l (w.2 - 1) < k ∨ lastM l (k - 1)) → leastR l kind w k = minI (lowAt l kind w k).least (totT l kind (cntAt l (moN l (k - 1))))))
  | 0, _ => by
    refine ⟨by simp [lowAt, totT, stoAt, stoNil, SM.nil, sumK], by simp [lowAt], fun _ => ofR_eq hf kind w.1, fun h => by simp [lowAt] at h⟩
  | k + 1, hk => by
    obtain ⟨i1, i2, i3, i4⟩ := low_inv hf kind w hw k (by omega)
    have hkl : k < l.length := by omega
    have hgd : l.getD k acD = l[k] := by simp [hkl]
    have hx := (actsFault_all hf).2 _ (List.getElem_mem hkl)
    have hF := cnt_iff hf hkl w.1
    have hE := cnt_iff hf hkl (w.2 - 1)
    have hFE : cntAt l w.1 ≤ cntAt l (w.2 - 1) := by
      rcases Nat.lt_or_ge (cntAt l (w.2 - 1)) (cntAt l w.1) with h | h
      · exfalso
        have h1 : cntAt l (w.2 - 1) < l.length := Nat.lt_of_lt_of_le h (cntAt_le l w.1)
        have h2 := cntAt_out h1
        have h3 := cntAt_in h
        omega
      · exact h
    have htk : ¬ ((takeS (stoAt l k) (l.getD k acD)).2.2 = 0 ∧ (takeS (stoAt l k) (l.getD k acD)).2.1 = kind) → totT l kind (k + 1) = totT l kind k := fun hne =>
      tot_other (stoAt_ok l k) (rel_at hf k (by omega)) kind (l.getD k acD) hne
    have hG : leastR l kind w (k + 1) = if w.1 < moN l k ∧ moN l k < w.2 then minI (leastR l kind w k) (totT l kind (cntAt l (moN l k))) else leastR l kind w k := by
      rw [leastR, ofR_eq hf]
    rw [lowAt]
    unfold lowStep
    generalize hq : lowAt l kind w k = q at *
    obtain ⟨now, least, begun⟩ := q
    simp only at i1 i2 i3 i4 ⊢
    have hmo : (l.getD k ⟨0, 0, bE, bE, bE, 0⟩).mo = moN l k := rfl
    have hmo1 : (l.getD (k + 1) ⟨0, 0, bE, bE, bE, 0⟩).mo = moN l (k + 1) := rfl
    rw [hmo, hmo1]
    generalize hte : (takeS (stoAt l k) (l.getD k acD)).2.2 = te at *
    generalize hto : (takeS (stoAt l k) (l.getD k acD)).2.1 = to at *
    have hnow : ∀ (q1 : Lo), q1.now = totT l kind k → (if te = 0 ∧ to = kind then (⟨totT l kind (k + 1), q1.least, q1.begun⟩ : Lo) else q1) = ⟨totT l kind (k + 1), q1.least, q1.begun⟩ := by
      intro q1 h1
      split
      · rfl
      · rename_i hne
        rw [htk hne, ← h1]
    by_cases hkF : k < cntAt l w.1
    · -- before the window
      have h1 : moN l k ≤ w.1 := hF.2 hkF
      have hb : begun = false := by rw [i2]; exact decide_eq_false (by omega)
      subst hb
      have hq1 : (if w.1 < moN l k ∧ false = false then (⟨now, now, true⟩ : Lo) else ⟨now, least, false⟩) = ⟨now, least, false⟩ := if_neg (fun h => by omega)
      rw [hq1, if_neg (by omega), hnow _ (by rw [i1, Nat.min_eq_left (by omega)])]
      simp only [Bool.false_eq_true, false_and, if_false]
      refine ⟨by rw [Nat.min_eq_left (by omega)], (decide_eq_false (by omega)).symm, fun _ => ?_, fun h => by cases h⟩
      rw [hG, if_neg (by omega)]; exact i3 rfl
    · have h1 : w.1 < moN l k := by
        rcases Int.lt_or_le w.1 (moN l k) with h | h
        · exact h
        · exact absurd (hF.1 h) hkF
      have hbeg : (if w.1 < moN l k ∧ begun = false then (⟨now, now, true⟩ : Lo) else ⟨now, least, begun⟩) = ⟨now, if begun = true then least else now, true⟩ := by
        cases begun <;> simp [h1]
      rw [hbeg]
      by_cases hkE : k < cntAt l (w.2 - 1)
      · -- in the window
        have h2 : moN l k < w.2 := by have := hE.2 hkE; omega
        have hk0 : now = totT l kind k := by rw [i1, Nat.min_eq_left (by omega)]
        rw [if_neg (by omega), hnow _ hk0]
        have hG' : leastR l kind w (k + 1) = minI (leastR l kind w k) (totT l kind (cntAt l (moN l k))) := by rw [hG, if_pos ⟨h1, h2⟩]
        generalize hL : (if begun = true then least else now) = L
        -- what is known of the least so far
        have hGL : leastR l kind w k = L ∨ leastR l kind w k = minI L (totT l kind (cntAt l (moN l k))) := by
          cases hb : begun with
          | false =>
            left
            rw [hb] at hL i2
            have hkeq : k = cntAt l w.1 := by have := of_decide_eq_false i2.symm; omega
            rw [i3 hb, ← hL, hk0]
            simp only [Bool.false_eq_true, if_false]
            rw [← hkeq]
          | true =>
            rw [hb] at hL i2
            simp only [if_true] at hL
            subst hL
            have hFk : cntAt l w.1 < k := of_decide_eq_true i2.symm
            by_cases hl : lastM l (k - 1)
            · exact .inl ((i4 hb).1 (.inr hl))
            · right
              have h4 := (i4 hb).2 (by intro h; rcases h with h | h; omega; exact hl h)
              have h5 := acts_sorted hf (k - 1) k (by omega) hkl
              have h6 : moN l (k - 1) = moN l k := by
                have : ¬ moN l (k - 1) < moN l (k - 1 + 1) := fun h => hl (.inr h)
                rw [show k - 1 + 1 = k by omega] at this
                omega
              rw [h4, h6]
        have hG2 : leastR l kind w (k + 1) = minI L (totT l kind (cntAt l (moN l k))) := by
          rcases hGL with h | h
          · rw [hG', h]
          · rw [hG', h, minI_idem]
        by_cases hl : lastM l k
        · rw [if_pos ⟨rfl, hl⟩]
          refine ⟨by rw [Nat.min_eq_left (by omega)], (decide_eq_true (by omega)).symm, fun h => by (exact absurd h (by simp)), fun _ => ⟨fun _ => ?_, fun h => absurd (.inr hl) h⟩⟩
          rw [hG2, last_cnt hf hkl hl]; rfl
        · rw [if_neg (fun h => hl h.2)]
          refine ⟨by rw [Nat.min_eq_left (by omega)], (decide_eq_true (by omega)).symm, fun h => by (exact absurd h (by simp)), fun _ => ⟨fun h => ?_, fun _ => hG2⟩⟩
          rcases h with h | h
          · omega
          · exact absurd h hl
      · -- behind the window
        have h2 : w.2 ≤ moN l k := by
          rcases Int.lt_or_le (moN l k) w.2 with h | h
          · exact absurd (hE.1 (by omega)) hkE
          · exact h
        rw [if_pos h2]
        have hG' : leastR l kind w (k + 1) = leastR l kind w k := by rw [hG, if_neg (by omega)]
        refine ⟨by rw [i1, Nat.min_eq_right (by omega), Nat.min_eq_right (by omega)], (decide_eq_true (by omega)).symm, fun h => by (exact absurd h (by simp)), fun _ => ⟨fun _ => ?_, fun h => absurd (.inl (by omega)) h⟩⟩
        rw [hG']
        cases hb : begun with
        | false =>
          rw [hb] at i2
          have hkeq : k ≤ cntAt l w.1 := by have := of_decide_eq_false i2.symm; omega
          rw [i3 hb]
          simp only [Bool.false_eq_true, if_false]
          rw [i1]; congr 1; omega
        | true =>
          rw [hb] at i2
          have hFk : cntAt l w.1 < k := of_decide_eq_true i2.symm
          simp only [if_true]
          refine (i4 hb).1 ?_
          rcases Nat.lt_or_ge (cntAt l (w.2 - 1)) k with h3 | h3
          · exact .inl h3
          · right; right
            have h4 := (cnt_iff hf (show k - 1 < l.length by omega) (w.2 - 1)).2 (by omega)
            rw [show k - 1 + 1 = k by omega]
            omega
theorem low_eq {l : List Ac} (hf : actsFault l = 0) (kind : ByteArray) (w : Wi) (hw : w.1 < w.2) : lowRes l kind w = leastR l kind w l.length := by
  obtain ⟨i1, i2, i3, i4⟩ := low_inv hf kind w hw l.length (Nat.le_refl _)
  have c1 := cntAt_le l w.1
  have c2 := cntAt_le l (w.2 - 1)
  unfold lowRes
  cases hb : (lowAt l kind w l.length).begun with
  | false =>
    rw [hb] at i2
    have h1 : l.length ≤ cntAt l w.1 := by have := of_decide_eq_false i2.symm; omega
    have hFE : cntAt l w.1 ≤ cntAt l (w.2 - 1) := by
      rcases Nat.lt_or_ge (cntAt l (w.2 - 1)) (cntAt l w.1) with h | h
      · exfalso
        have h1 : cntAt l (w.2 - 1) < l.length := Nat.lt_of_lt_of_le h (cntAt_le l w.1)
        have h2 := cntAt_out h1
        have h3 := cntAt_in h
        omega
      · exact h
    simp only [Bool.false_eq_true, if_false]
    rw [i1, i3 hb, Nat.min_eq_left (by omega)]; congr 1; omega
  | true =>
    rw [hb] at i2
    have h1 : cntAt l w.1 < l.length := of_decide_eq_true i2.symm
    simp only [if_true]
    exact ((i4 hb).1 (.inr (.inl (by omega)))).symm
end Go.Proofs.YtllpjcgadfmipaaGreat

/- Strings are ordered; lists whose keys rise, and what is looked for in them. -/
namespace Go.Proofs.YtllpjcgadfmipaaGreat
set_option linter.unusedVariables false
set_option linter.unusedSimpArgs false
open Abs

theorem ltL_irr : ∀ a : List UInt8, Op.bytesLess a a = false
  | [] => rfl
  | a :: r => by
    have ih := ltL_irr r
    simp [Op.bytesLess, ih]
theorem ltL_trans : ∀ {a b c : List UInt8}, Op.bytesLess a b = true → Op.bytesLess b c = true → Op.bytesLess a c = true
  | [], [], c, h, h2 => h2
  | [], b :: s, [], h, h2 => by simp [Op.bytesLess] at h2
  | [], b :: s, c :: t, h, h2 => rfl
  | a :: r, [], c, h, h2 => by simp [Op.bytesLess] at h
  | a :: r, b :: s, [], h, h2 => by simp [Op.bytesLess] at h2
  | a :: r, b :: s, c :: t, h, h2 => by
    simp only [Op.bytesLess, Bool.or_eq_true, decide_eq_true_eq, Bool.and_eq_true, beq_iff_eq] at h h2 ⊢
    rcases h with h | ⟨h, h'⟩
    · rcases h2 with h2 | ⟨h2, h2'⟩
      · exact .inl (UInt8.lt_trans h h2)
      · subst h2; exact .inl h
    · subst h
      rcases h2 with h2 | ⟨h2, h2'⟩
      · exact .inl h2
      · exact .inr ⟨h2, ltL_trans h' h2'⟩
theorem ltL_tri : ∀ a b : List UInt8, Op.bytesLess a b = true ∨ a = b ∨ Op.bytesLess b a = true
  | [], [] => .inr (.inl rfl)
  | [], _ :: _ => .inl rfl
  | _ :: _, [] => .inr (.inr rfl)
  | a :: r, b :: s => by
    have ih := ltL_tri r s
    simp only [Op.bytesLess, Bool.or_eq_true, decide_eq_true_eq, Bool.and_eq_true, beq_iff_eq]
    rcases Nat.lt_trichotomy a.toNat b.toNat with h | h | h
    · exact .inl (.inl (UInt8.lt_iff_toNat_lt.2 h))
    · have e := UInt8.toNat_inj.1 h
      subst e
      rcases ih with h1 | h1 | h1
      · exact .inl (.inr ⟨rfl, h1⟩)
      · exact .inr (.inl (by rw [h1]))
      · exact .inr (.inr (.inr ⟨rfl, h1⟩))
    · exact .inr (.inr (.inl (UInt8.lt_iff_toNat_lt.2 h)))
theorem toList_eq' {a b : ByteArray} : a.toList = b.toList ↔ a = b := by
  rw [ByteArray.toList_eq, ByteArray.toList_eq]
  exact ⟨fun h => ByteArray.ext (Array.toList_inj.1 h), fun h => by rw [h]⟩
def ltB (a b : ByteArray) : Bool := Op.bytesLess a.toList b.toList
theorem ltB_irr (a : ByteArray) : ltB a a = false := ltL_irr _
theorem ltB_trans {a b c : ByteArray} (h : ltB a b = true) (h2 : ltB b c = true) : ltB a c = true := ltL_trans h h2
theorem ltB_tri (a b : ByteArray) : ltB a b = true ∨ a = b ∨ ltB b a = true := by
  rcases ltL_tri a.toList b.toList with h | h | h
  · exact .inl h
  · exact .inr (.inl (toList_eq'.1 h))
  · exact .inr (.inr h)
theorem ltB_asym {a b : ByteArray} (h : ltB a b = true) : ltB b a = false := by
  cases h2 : ltB b a with
  | false => rfl
  | true => have := ltB_trans h h2; rw [ltB_irr] at this; cases this
theorem ltB_ne {a b : ByteArray} (h : ltB a b = true) : a ≠ b := by
  intro e; subst e; rw [ltB_irr] at h; cases h
theorem leB_iff {a b : ByteArray} : leB a b = true ↔ ltB a b = true ∨ a = b := by
  unfold leB ltB
  rw [Bool.or_eq_true, beq_iff_eq, toList_eq']
theorem leB_not {a b : ByteArray} : leB a b = false ↔ ltB b a = true := by
  constructor
  · intro h
    have h1 : ¬ (ltB a b = true ∨ a = b) := fun e => by rw [← leB_iff, h] at e; cases e
    rcases ltB_tri a b with h2 | h2 | h2
    · exact absurd (.inl h2) h1
    · exact absurd (.inr h2) h1
    · exact h2
  · intro h
    cases h2 : leB a b with
    | false => rfl
    | true =>
      rcases leB_iff.1 h2 with h3 | h3
      · rw [ltB_asym h3] at h; cases h
      · subst h3; rw [ltB_irr] at h; cases h
theorem cmpL_lt : ∀ a b : List UInt8, Lib.compareBytes a b < 0 ↔ Op.bytesLess a b = true
  | [], [] => by simp [Lib.compareBytes, Op.bytesLess]
  | [], _ :: _ => by simp [Lib.compareBytes, Op.bytesLess]
  | _ :: _, [] => by simp [Lib.compareBytes, Op.bytesLess]
  | a :: r, b :: s => by
    have ih := cmpL_lt r s
    unfold Lib.compareBytes Op.bytesLess
    simp only [Bool.or_eq_true, decide_eq_true_eq, Bool.and_eq_true, beq_iff_eq]
    split
    · rename_i h; simp [h]
    · rename_i h
      split
      · rename_i h2
        simp only [h, false_or]
        constructor
        · intro h3; omega
        · rintro ⟨h3, _⟩; subst h3; exact absurd h2 (UInt8.lt_irrefl _)
      · rename_i h2
        have hab : a = b := by
          rw [UInt8.lt_iff_toNat_lt] at h h2
          exact UInt8.toNat_inj.1 (by omega)
        rw [ih]; simp [h, hab]
theorem cmpL_zero : ∀ a b : List UInt8, Lib.compareBytes a b = 0 ↔ a = b
  | [], [] => by simp [Lib.compareBytes]
  | [], _ :: _ => by simp [Lib.compareBytes]
  | _ :: _, [] => by simp [Lib.compareBytes]
  | x :: xs, y :: ys => by
    have ih := cmpL_zero xs ys
    unfold Lib.compareBytes
    split
    · rename_i h
      constructor
      · intro e; cases e
      · intro e; cases e; exact absurd h (UInt8.lt_irrefl x)
    · split
      · rename_i h
        constructor
        · intro e; cases e
        · intro e; cases e; exact absurd h (UInt8.lt_irrefl x)
      · rename_i h1 h2
        have hxy : x = y := by
          rw [UInt8.lt_iff_toNat_lt] at h1 h2
          exact UInt8.toNat_inj.1 (by omega)
        rw [ih, hxy]; simp
theorem cmp_lt {a b : ByteArray} : cmpS a b < 0 ↔ ltB a b = true := by
  unfold cmpS ltB; rw [cmpL_lt, ByteArray.toList_eq, ByteArray.toList_eq]
theorem cmp_zero {a b : ByteArray} : cmpS a b = 0 ↔ a = b := by
  unfold cmpS
  rw [cmpL_zero]
  exact ⟨fun h => ByteArray.ext (Array.toList_inj.1 h), fun h => by rw [h]⟩

instance lawB : LawfulBEq ByteArray where
  eq_of_beq {a b} h := by
    obtain ⟨x⟩ := a
    obtain ⟨y⟩ := b
    have : x = y := eq_of_beq (show (x == y) = true from h)
    rw [this]
  rfl {a} := by
    obtain ⟨x⟩ := a
    exact show (x == x) = true from beq_self_eq_true x

/-! keys that rise -/
section
variable {α : Type} {key : α → ByteArray}
def Rise (key : α → ByteArray) (l : List α) : Prop := l.Pairwise fun x y => ltB (key x) (key y) = true
theorem Rise.at {l : List α} (h : Rise key l) {i j : Nat} (hij : i < j) (hj : j < l.length) : ltB (key (l[i]'(by omega))) (key l[j]) = true := List.pairwise_iff_getElem.1 h i j (by omega) hj hij
/-- errors of a list, one behind another, with the key before -/
def seqErr (e : Bool → ByteArray → α → Int) (key : α → ByteArray) : Bool → ByteArray → List α → Int
  | _, _, [] => 0
  | f, b, x :: r => if e f b x = 0 then seqErr e key false (key x) r else e f b x
theorem seqErr_low {e : Bool → ByteArray → α → Int} (he : ∀ b x, e false b x = 0 → ltB b (key x) = true) : ∀ {l : List α} {b : ByteArray}, seqErr e key false b l = 0 → (∀ x ∈ l, ltB b (key x) = true) ∧ Rise key l
  | [], _, _ => ⟨by simp, List.Pairwise.nil⟩
  | x :: r, b, h => by
    simp only [seqErr] at h
    split at h
    · rename_i h0
      obtain ⟨h1, h2⟩ := seqErr_low he h
      have h3 := he b x h0
      refine ⟨?_, List.pairwise_cons.2 ⟨h1, h2⟩⟩
      intro y hy
      rcases List.mem_cons.1 hy with rfl | hy
      · exact h3
      · exact ltB_trans h3 (h1 y hy)
    · rename_i h0; exact absurd h h0
theorem seqErr_rise {e : Bool → ByteArray → α → Int} (he : ∀ b x, e false b x = 0 → ltB b (key x) = true) {l : List α} {f : Bool} {b : ByteArray} (h : seqErr e key f b l = 0) : Rise key l := by
  cases l with
  | nil => exact List.Pairwise.nil
  | cons x r =>
    simp only [seqErr] at h
    split at h
    · obtain ⟨h1, h2⟩ := seqErr_low he h
      exact List.pairwise_cons.2 ⟨h1, h2⟩
    · rename_i h0; exact absurd h h0
theorem seqErr_all {e : Bool → ByteArray → α → Int} : ∀ {l : List α} {f : Bool} {b : ByteArray}, seqErr e key f b l = 0 → ∀ x ∈ l, ∃ f b, e f b x = 0
  | [], _, _, _, x, hx => by simp at hx
  | y :: r, f, b, h, x, hx => by
    simp only [seqErr] at h
    split at h
    · rename_i h0
      rcases List.mem_cons.1 hx with rfl | hx
      · exact ⟨f, b, h0⟩
      · exact seqErr_all h x hx
    · rename_i h0; exact absurd h h0
theorem seqErr_drop {e : Bool → ByteArray → α → Int} {l : List α} {k : Nat} {f : Bool} {b : ByteArray} (h : k < l.length) : seqErr e key f b (l.drop k) = if e f b l[k] = 0 then seqErr e key false (key l[k]) (l.drop (k + 1)) else e f b l[k] := by
  rw [List.drop_eq_getElem_cons h, seqErr]
/-- the key before -/
def befK (key : α → ByteArray) (l : List α) (k : Nat) : ByteArray := if k = 0 then ⟨#[]⟩ else match l[k - 1]? with | some x => key x | none => ⟨#[]⟩
theorem befK_succ {l : List α} {k : Nat} (h : k < l.length) : befK key l (k + 1) = key l[k] := by
  unfold befK
  rw [if_neg (by omega), Nat.add_sub_cancel, List.getElem?_eq_getElem h]
theorem befK_pos {l : List α} {k : Nat} (h : k ≤ l.length) (h0 : 0 < k) : befK key l k = key (l[k - 1]'(by omega)) := by
  unfold befK
  rw [if_neg (by omega), List.getElem?_eq_getElem (show k - 1 < l.length by omega)]
end
theorem all_succ' {α : Type} {p : α → Bool} {l : List α} {k : Nat} {hk : k < l.length} (hi : ∀ i (h : i < l.length), i < k → p l[i] = false) (h : p l[k] = false) : ∀ i (h : i < l.length), i < k + 1 → p l[i] = false := by
  intro i hi1 hi2
  rcases Nat.lt_or_ge i k with h3 | h3
  · exact hi i hi1 h3
  · have : i = k := by omega
    subst this; exact h
/-! searching in two halves -/
def cntL {α : Type} (c : α → Int) (l : List α) : Nat := (l.takeWhile fun x => decide (c x < 0)).length
def hitL {α : Type} (c : α → Int) (l : List α) : Bool := match l[cntL c l]? with | some x => c x == 0 | none => false
theorem cntL_at {α : Type} {c : α → Int} : ∀ {l : List α} {i : Nat}, i ≤ l.length → (∀ k (h : k < l.length), k < i → c l[k] < 0) → (∀ k (h : k < l.length), i ≤ k → ¬ c l[k] < 0) → cntL c l = i
  | [], i, hi, _, _ => by simp at hi; subst hi; rfl
  | a :: r, i, hi, h1, h2 => by
    unfold cntL
    cases i with
    | zero =>
      have := h2 0 (by simp) (Nat.le_refl _)
      simp only [List.getElem_cons_zero] at this
      simp [List.takeWhile_cons, this]
    | succ i =>
      have h3 := h1 0 (by simp) (by omega)
      simp only [List.getElem_cons_zero] at h3
      have ih := cntL_at (c := c) (l := r) (i := i) (by simpa using hi) (fun k hk hki => by have := h1 (k + 1) (by simpa using hk) (by omega); simpa using this) (fun k hk hki => by have := h2 (k + 1) (by simpa using hk) (by omega); simpa using this)
      simp only [List.takeWhile_cons, h3, decide_true, if_true, List.length_cons]
      unfold cntL at ih
      rw [ih]
theorem mid_eq {i j : Nat} (h : i + j ≤ 4000000) : IntKind.i64.wrap (shV .shr .u64 (IntKind.u64.wrap (IntKind.i64.wrap ((i : Int) + (j : Int)))) 1) = (((i + j) / 2 : Nat) : Int) := by
  have e1 : IntKind.i64.wrap ((i : Int) + (j : Int)) = ((i + j : Nat) : Int) := by rw [wrap_in (by omega) (by omega)]; omega
  have e2 : IntKind.u64.wrap ((i + j : Nat) : Int) = ((i + j : Nat) : Int) := IntWalk.u64_in _ ⟨by omega, by omega⟩
  rw [e1, e2]
  have e3 : shV .shr .u64 ((i + j : Nat) : Int) 1 = (((i + j) / 2 : Nat) : Int) := by
    show Int.fdiv ((i + j : Nat) : Int) 2 = _
    rw [Int.fdiv_eq_ediv_of_nonneg _ (by omega)]; omega
  rw [e3, wrap_in (by omega) (by omega)]
theorem cntL_cons {α : Type} (c : α → Int) (a : α) (r : List α) : cntL c (a :: r) = if c a < 0 then cntL c r + 1 else 0 := by
  unfold cntL
  rw [List.takeWhile_cons]
  by_cases h : c a < 0 <;> simp [h]
theorem find_rise {α : Type} {key : α → ByteArray} {c : α → Int} {k : ByteArray} (hc : ∀ x, (c x < 0 ↔ ltB (key x) k = true) ∧ (c x = 0 ↔ key x = k)) : ∀ {l : List α}, Rise key l → (l.find? fun x => decide (key x = k)) = if hitL c l then l[cntL c l]? else none
  | [], _ => by simp [hitL, cntL]
  | a :: r, h => by
    obtain ⟨h1, h2⟩ := List.pairwise_cons.1 h
    have ih := find_rise hc h2
    by_cases ha : c a < 0
    · have hne : ¬ key a = k := fun e => by have := (hc a).2.2 e; omega
      have hh : hitL c (a :: r) = hitL c r := by unfold hitL; rw [cntL_cons, if_pos ha, List.getElem?_cons_succ]
      rw [List.find?_cons, hh, cntL_cons, if_pos ha, List.getElem?_cons_succ, ← ih]
      simp [hne]
    · have hh : hitL c (a :: r) = (c a == 0) := by unfold hitL; rw [cntL_cons, if_neg ha]; rfl
      rw [List.find?_cons, hh, cntL_cons, if_neg ha]
      by_cases h0 : c a = 0
      · simp [(hc a).2.1 h0, h0]
      · have hne : ¬ key a = k := fun e => h0 ((hc a).2.2 e)
        have hlt : ltB k (key a) = true := by
          rcases ltB_tri (key a) k with h3 | h3 | h3
          · exact absurd ((hc a).1.2 h3) ha
          · exact absurd h3 hne
          · exact h3
        have hn : r.find? (fun x => decide (key x = k)) = none := by
          rw [List.find?_eq_none]
          intro x hx
          have h3 := ltB_trans hlt (h1 x hx)
          simpa using (ltB_ne h3).symm
        simp [hne, h0, hn]
theorem rise_mono {α : Type} {key : α → ByteArray} {c : α → Int} {k : ByteArray} (hc : ∀ x, c x < 0 ↔ ltB (key x) k = true) {l : List α} (h : Rise key l) : ∀ i j (hj : j < l.length) (hij : i ≤ j), c l[j] < 0 → c (l[i]'(by omega)) < 0 := by
  intro i j hj hij hlt
  rcases Nat.lt_or_ge i j with h1 | h1
  · exact (hc _).2 (ltB_trans (h.at h1 hj) ((hc _).1 hlt))
  · have : i = j := by omega
    subst this; exact hlt
theorem rise_nodup {α : Type} {key : α → ByteArray} {l : List α} (h : Rise key l) : (l.map key).Nodup := by
  rw [List.Nodup, List.pairwise_map]
  exact h.imp fun h => ltB_ne h
/-- what rises and has the same keys is the same -/
theorem rise_ext : ∀ {a b : List ByteArray}, Rise id a → Rise id b → (∀ x, x ∈ a ↔ x ∈ b) → a = b
  | [], [], _, _, _ => rfl
  | [], y :: s, _, _, h => absurd ((h y).2 (by simp)) (by simp)
  | x :: r, [], _, _, h => absurd ((h x).1 (by simp)) (by simp)
  | x :: r, y :: s, ha, hb, h => by
    obtain ⟨a1, a2⟩ := List.pairwise_cons.1 ha
    obtain ⟨b1, b2⟩ := List.pairwise_cons.1 hb
    have hxy : x = y := by
      rcases List.mem_cons.1 ((h x).1 (by simp)) with h1 | h1
      · exact h1
      · rcases List.mem_cons.1 ((h y).2 (by simp)) with h2 | h2
        · exact h2.symm
        · have h3 := b1 x h1
          have h4 := a1 y h2
          simp only [id] at h3 h4
          rw [ltB_asym h3] at h4; cases h4
    subst hxy
    congr 1
    refine rise_ext a2 b2 fun z => ?_
    constructor
    · intro hz
      rcases List.mem_cons.1 ((h z).1 (by simp [hz])) with h1 | h1
      · subst h1; have := a1 z hz; simp only [id] at this; rw [ltB_irr] at this; cases this
      · exact h1
    · intro hz
      rcases List.mem_cons.1 ((h z).2 (by simp [hz])) with h1 | h1
      · subst h1; have := b1 z hz; simp only [id] at this; rw [ltB_irr] at this; cases this
      · exact h1
/-- what is found is there once -/
theorem rise_find {α : Type} {key : α → ByteArray} {l : List α} (h : Rise key l) {x : α} (hx : x ∈ l) : (l.find? fun y => decide (key y = key x)) = some x := by
  induction l with
  | nil => simp at hx
  | cons a r ih =>
    obtain ⟨h1, h2⟩ := List.pairwise_cons.1 h
    rw [List.find?_cons]
    rcases List.mem_cons.1 hx with rfl | hx
    · simp
    · have := ltB_ne (h1 x hx)
      simp [this, ih h2 hx]
end Go.Proofs.YtllpjcgadfmipaaGreat

/- Sorted lists: sorting by insertion sorts; lists that rise by keys are told by what they hold. -/
namespace Go.Proofs.YtllpjcgadfmipaaGreat
set_option linter.unusedVariables false
set_option linter.unusedSimpArgs false
open Abs

/-- in order up to m, but for the one at j, which is not greater than any behind it -/
def InsInv {α : Type} (c : α → α → Int) (m j : Nat) (l : List α) : Prop :=
  (∀ i k x y, i < k → k ≤ m → i ≠ j → k ≠ j → l[i]? = some x → l[k]? = some y → ¬ c y x < 0) ∧ ∀ k x y, j < k → k ≤ m → l[j]? = some x → l[k]? = some y → ¬ c y x < 0
def SrtTo {α : Type} (c : α → α → Int) (n : Nat) (l : List α) : Prop := ∀ i k x y, i < k → k < n → l[i]? = some x → l[k]? = some y → ¬ c y x < 0
theorem insDown_srt {α : Type} {c : α → α → Int} (hc : SWOc c) (m : Nat) : ∀ (j : Nat) (l : List α), j ≤ m → m < l.length → InsInv c m j l → SrtTo c (m + 1) (insDown c 0 j l)
  | 0, l, _, hm, ⟨h1, h2⟩ => by
    intro i k x y hik hk hx hy
    rw [insDown] at hx hy
    by_cases e : i = 0
    · subst e; exact h2 k x y hik (by omega) hx hy
    · exact h1 i k x y hik (by omega) e (by omega) hx hy
  | j + 1, l, hj, hm, ⟨h1, h2⟩ => by
    by_cases hlt : c (l[j + 1]'(by omega)) (l[j]'(by omega)) < 0
    · rw [insDown_step (by omega) (by omega) hlt]
      refine insDown_srt hc m j _ (by omega) (by simpa using hm) ⟨?_, ?_⟩
      · intro i k x y hik hk hij hkj hx hy
        rw [List.getElem?_set_ne (Ne.symm hij)] at hx
        rw [List.getElem?_set_ne (Ne.symm hkj)] at hy
        by_cases e1 : k = j + 1
        · subst e1
          rw [List.getElem?_set_ne (by omega)] at hx
          rw [List.getElem?_set_self (by omega)] at hy
          cases hy
          exact h1 i j x _ (by omega) (by omega) (by omega) (by omega) hx (List.getElem?_eq_getElem (by omega))
        · by_cases e2 : i = j + 1
          · subst e2
            rw [List.getElem?_set_self (by omega)] at hx
            rw [List.getElem?_set_ne (by omega)] at hy
            cases hx
            exact h1 j k _ y (by omega) hk (by omega) e1 (List.getElem?_eq_getElem (by omega)) hy
          · rw [List.getElem?_set_ne (by omega)] at hx hy
            exact h1 i k x y hik hk e2 e1 hx hy
      · intro k x y hjk hk hx hy
        rw [List.getElem?_set_self (by simp; omega)] at hx
        cases hx
        rw [List.getElem?_set_ne (by omega)] at hy
        by_cases e1 : k = j + 1
        · subst e1
          rw [List.getElem?_set_self (by omega)] at hy
          cases hy
          intro h6
          exact hc.irrefl _ (hc.trans _ _ _ hlt h6)
        · rw [List.getElem?_set_ne (by omega)] at hy
          exact h2 k _ y (by omega) hk (List.getElem?_eq_getElem (by omega)) hy
    · rw [insDown_stop (by omega) hlt]
      intro i k x y hik hk hx hy
      by_cases e1 : k = j + 1
      · subst e1
        rw [List.getElem?_eq_getElem (by omega)] at hy
        cases hy
        by_cases e2 : i = j
        · subst e2
          rw [List.getElem?_eq_getElem (by omega)] at hx
          cases hx
          exact hlt
        · exact hc.ntrans _ _ _ hlt (h1 i j x _ (by omega) (by omega) (by omega) (by omega) hx (List.getElem?_eq_getElem (by omega)))
      · by_cases e2 : i = j + 1
        · subst e2; exact h2 k x y hik (by omega) hx hy
        · exact h1 i k x y hik (by omega) e2 e1 hx hy
theorem insTo_srt {α : Type} {c : α → α → Int} (hc : SWOc c) (l : List α) : ∀ m, m < l.length → SrtTo c (m + 1) (insTo c 0 m l)
  | 0, _ => fun i k x y h1 h2 => by omega
  | m + 1, h => by
    have ih := insTo_srt hc l m (by omega)
    rw [insTo, show 0 + 1 + m = m + 1 by omega]
    refine insDown_srt hc (m + 1) (m + 1) _ (Nat.le_refl _) (by rw [insTo_len]; exact h) ⟨?_, ?_⟩
    · intro i k x y hik hk _ hk2 hx hy
      exact ih i k x y hik (by omega) hx hy
    · intro k x y h1 h2; omega
theorem insSort_srt {α : Type} {c : α → α → Int} (hc : SWOc c) (l : List α) : (insSort c l).Pairwise fun x y => ¬ c y x < 0 := by
  unfold insSort
  cases h : l with
  | nil => exact List.Pairwise.nil
  | cons a r =>
    rw [← h]
    have h0 : 0 < l.length := by rw [h]; simp
    have := insTo_srt hc l (l.length - 1) (by omega)
    rw [List.pairwise_iff_getElem]
    intro i k hi hk hik
    have hlen := insTo_len c 0 (l.length - 1) l
    exact this i k _ _ hik (by omega) (List.getElem?_eq_getElem hi) (List.getElem?_eq_getElem hk)
theorem swo_key {α : Type} (key : α → ByteArray) : SWOc fun a b : α => cmpS (key a) (key b) where
  irrefl x := by rw [cmp_lt, ltB_irr]; simp
  trans x y z h1 h2 := cmp_lt.2 (ltB_trans (cmp_lt.1 h1) (cmp_lt.1 h2))
  ntrans x y z h1 h2 := by
    rw [cmp_lt] at h1 h2 ⊢
    intro h3
    rcases ltB_tri (key x) (key y) with h | h | h
    · exact h1 h
    · rw [h] at h3; exact h2 h3
    · exact h2 (ltB_trans h h3)
theorem rise_of {α : Type} {key : α → ByteArray} {l : List α} (h : l.Pairwise fun x y => ¬ cmpS (key y) (key x) < 0) (hn : (l.map key).Nodup) : Rise key l := by
  unfold Rise
  have hn' : l.Pairwise fun x y => key x ≠ key y := List.pairwise_map.1 hn
  refine (h.and hn').imp ?_
  rintro x y ⟨h1, h2⟩
  rw [cmp_lt] at h1
  rcases ltB_tri (key x) (key y) with h | h | h
  · exact h
  · exact (h2 h).elim
  · exact (h1 h).elim
theorem rise_one {α : Type} {key : α → ByteArray} : ∀ {a b : List α}, a.Perm b → Rise key a → Rise key b → a = b
  | [], b, hp, _, _ => by rw [List.nil_perm.1 hp]
  | x :: r, [], hp, _, _ => by have := hp.length_eq; simp at this
  | x :: r, y :: t, hp, h1, h2 => by
    obtain ⟨a1, a2⟩ := List.pairwise_cons.1 h1
    obtain ⟨b1, b2⟩ := List.pairwise_cons.1 h2
    have hxy : x = y := by
      rcases List.mem_cons.1 (hp.mem_iff.1 (show x ∈ x :: r by simp)) with h | h
      · exact h
      · rcases List.mem_cons.1 (hp.mem_iff.2 (show y ∈ y :: t by simp)) with h' | h'
        · exact h'.symm
        · have := ltB_asym (a1 y h'); rw [b1 x h] at this; cases this
    subst hxy
    rw [rise_one (List.Perm.cons_inv hp) a2 b2]
end Go.Proofs.YtllpjcgadfmipaaGreat

/- Strings sorted (a few), and what numbers look like: Itoa by the kit's contract. -/
namespace Go.Proofs.YtllpjcgadfmipaaGreat
set_option linter.unusedVariables false
set_option linter.unusedSimpArgs false
open Abs

/-! what a function of the library gives that makes new memory of its own -/
theorem Nx.grown {F : Nat → Prop} {φ : Nat → Option Value} {w : World} {N : Nat → Prop} {h : Nat → Option Ob} (k : Nat) (os : Array Obj) : Nx F φ w h N [] F φ (Sort.grow (w.drewN k) os) where
  hF _ h := h
  hφ _ _ h := h
  nφ _ _ h := .inl h
  os := rfl
  tape := rfl
  output := rfl
  drawn := Nat.le_add_right _ _
  size := by simp [Sort.grow, World.drewN]
  keep b hb hne := (hne (by simp only [Sort.grow, World.drewN]; rw [Array.getElem?_append_left hb])).elim
  nF b h := .inl h
  objs l o h := by simp [chGet] at h
  own l o b h := by simp [chGet] at h
  inj l l' o o' b h := by simp [chGet] at h
end Go.Proofs.YtllpjcgadfmipaaGreat

/- Lists of acts joined: slices.Grow by the kit's contract, slices.Concat. -/
namespace Go.Proofs.YtllpjcgadfmipaaGreat
set_option linter.unusedVariables false
set_option linter.unusedSimpArgs false
open Abs

end Go.Proofs.YtllpjcgadfmipaaGreat

/- The store at a moment, by the program. -/
namespace Go.Proofs.YtllpjcgadfmipaaGreat
set_option linter.unusedVariables false
set_option linter.unusedSimpArgs false
open Abs

set_option maxRecDepth 100000 in
set_option maxHeartbeats 4000000 in
theorem at1N_pc (s : Sto) (a b : Int) (of : ByteArray) : PCp 129 [.c (.ptr 0 0), .c (.int .i64 a), .c (.str of), .c (.int .i64 b)] [stBox, stoD s, stoK s] (.tup []) [stBox, stoD s, stoK s] := by
  refine fn_sound (mt := mts) tab_fits tab_mixed Tryz.func129 (by rfl) (by kernel_rfl) (by kernel_rfl) Tryz.results129 (Nat.le_of_ble_eq_true (by kernel_rfl)) ?_
  conv => whnf
  exact .mk ⟨rfl, rfl⟩
set_option maxRecDepth 100000 in
set_option maxHeartbeats 4000000 in
theorem followA_pc (l : List Ac) (hl : l.length ≤ 100000) :
    PCp 72 [.c (.lst 6 (l.map encAc)), .c (.fn 129 [])] [] (.c (.ptr 0 0)) [stBox, stoD (stoAt l l.length), stoK (stoAt l l.length)] := by
  have hlm : (l.map encAc).length = l.length := List.length_map ..
  refine fn_sound (mt := mts) tab_fits tab_mixed Tryz.func72 (by rfl) (by kernel_rfl) (by kernel_rfl) Tryz.results72 (Nat.le_of_ble_eq_true (by kernel_rfl)) ?_
  conv => whnf
  refine loop_count (l.length) [] [1, 5, 14, 15, 16] (fun k (_ : Unit) => ⟨[(1, .c (.fn 129 [])), (5, .c (.ptr 0 0)), (14, .c (.lst 6 (l.map encAc))), (15, .c (.int .i64 (l.map encAc).length)), (16, .c (.int .i64 k))], [(0, .box [.mp 1, .mp 2]), (1, stoD (stoAt l k)), (2, stoK (stoAt l k))], 3⟩) (fun k (_ : Unit) => True) (()) ?_ ?_ ?_
  · conv => whnf
    exact ⟨rfl, trivial⟩
  · intro k _ hk _
    have hg : l.getD k ⟨0, 0, bE, bE, bE, 0⟩ = l[k] := by simp [hk]
    conv => whnf
    repeat' (first | (refine Split.mk (fun h => ?_) (fun h => ?_) <;> (try simp only [decide_eq_true_eq, decide_eq_false_iff_not, Bool.not_eq_true', Bool.not_eq_false', beq_iff_eq, beq_eq_false_iff_ne, bne_iff_ne, bne_eq_false_iff_eq] at h) <;> (first | (exfalso; first | omega | exact h trivial) | (conv => whnf))) | (refine CondG.mk (fun h => ?_) (fun h => ?_) <;> (try simp only [decide_eq_true_eq, decide_eq_false_iff_not, Bool.not_eq_true', Bool.not_eq_false', beq_iff_eq, beq_eq_false_iff_ne, bne_iff_ne, bne_eq_false_iff_eq] at h) <;> (first | (exfalso; first | omega | exact h trivial) | (conv => whnf))) | (refine CallX.mk _ _ (by first | exact take_pc (stoAt l k) (stoAt_ok l k) l[k] | exact at1N_pc _ _ _ _) ?_; conv => whnf) | (refine CallG.mk _ _ (by first | exact take_pc (stoAt l k) (stoAt_ok l k) l[k] | exact at1N_pc _ _ _ _) ?_; conv => whnf) | (refine Ask.mk (by first | omega | (unfold roomOK; simp [cutRows]; done) | (unfold roomOK; simp [cutRows]; omega) | (simp [cutRows]; done) | (simp [cutRows]; omega)) ?_; conv => whnf) | (refine AppG.mk (by first | omega | (unfold roomOK; simp [cutRows]; done) | (unfold roomOK; simp [cutRows]; omega) | (simp [cutRows]; done) | (simp [cutRows]; omega)) ?_; conv => whnf) | (refine SliceG.fr ?_; conv => whnf) | (refine idx_at _ (by with_reducible rfl) (by first | assumption | omega) ?_; conv => whnf) | ((with_reducible refine row_map (by first | assumption | omega) ?_); conv => whnf) | ((with_reducible refine row_set (by first | assumption | omega | (simp only [List.length_set]; omega) | (simp; omega)) ?_); conv => whnf) | fail)
    refine count_next () hk (by rw [wrap_succ hk (by omega)]; simp only [stoAt, hg]; rfl) trivial
  · intro _ _
    conv => whnf
    repeat' (first | (refine Split.mk (fun h => ?_) (fun h => ?_) <;> (try simp only [decide_eq_true_eq, decide_eq_false_iff_not, Bool.not_eq_true', Bool.not_eq_false', beq_iff_eq, beq_eq_false_iff_ne] at h) <;> (first | (exfalso; first | omega | exact h trivial) | (conv => whnf))) | (refine CondG.mk (fun h => ?_) (fun h => ?_) <;> (try simp only [decide_eq_true_eq, decide_eq_false_iff_not, Bool.not_eq_true', Bool.not_eq_false', beq_iff_eq, beq_eq_false_iff_ne] at h) <;> (first | (exfalso; first | omega | exact h trivial) | (conv => whnf))) | (refine Ask.mk (by first | omega | (unfold roomOK; simp [cutRows]; done) | (unfold roomOK; simp [cutRows]; omega)) ?_; conv => whnf) | (refine AppG.mk (by first | omega | (unfold roomOK; simp [cutRows]; done) | (unfold roomOK; simp [cutRows]; omega)) ?_; conv => whnf) | (refine SliceG.fr ?_; conv => whnf) | fail)
    exact .mk ⟨rfl, rfl⟩
def atE (l : List Ac) (t : Int) : Int := if actsFault l ≠ 0 then actsFault l else if momB t = true then 0 else 1
theorem stoAt_take (l : List Ac) (n : Nat) (hn : n ≤ l.length) : ∀ k, k ≤ n → stoAt (l.take n) k = stoAt l k
  | 0, _ => rfl
  | k + 1, h => by
    unfold stoAt
    rw [stoAt_take l n hn k (by omega)]
    have e : (l.take n).getD k ⟨0, 0, bE, bE, bE, 0⟩ = l.getD k ⟨0, 0, bE, bE, bE, 0⟩ := by
      simp only [List.getD_eq_getElem?_getD, List.getElem?_take, if_pos (show k < n by omega)]
    rw [e]
set_option maxRecDepth 100000 in
set_option maxHeartbeats 4000000 in
theorem at_ok (l : List Ac) (t : Int) (h : atE l t = 0) : PCp 75 [.c (.lst 6 (l.map encAc)), .c (.int .i64 t)] [] (.tup [.c (.ptr 0 0), .c (.int .i64 0)]) [stBox, stoD (stoAt l (cntAt l t)), stoK (stoAt l (cntAt l t))] := by
  have hf : actsFault l = 0 := by
    unfold atE at h
    split at h
    · exact h
    · rename_i h1; omega
  have hm : momB t = true := by
    unfold atE at h
    rw [if_neg (by omega)] at h
    split at h
    · assumption
    · cases h
  have hl := (actsFault_all hf).1
  have hlm : (l.map encAc).length = l.length := List.length_map ..
  have c1 := bMoment_pc t
  rw [hm] at c1
  have c2 := checkActs_pc l
  rw [hf] at c2
  have c3 := followA_pc (l.take (cntAt l t)) (by simp; omega)
  have hcl := cntAt_le l t
  rw [show (l.take (cntAt l t)).length = cntAt l t by simp; omega, stoAt_take l _ hcl _ (Nat.le_refl _), List.map_take] at c3
  refine fn_sound (mt := mts) tab_fits tab_mixed Tryz.func75 (by rfl) (by kernel_rfl) (by kernel_rfl) Tryz.results75 (Nat.le_of_ble_eq_true (by kernel_rfl)) ?_
  conv => whnf
  repeat' (first | (refine Split.mk (fun h => ?_) (fun h => ?_) <;> (try simp only [decide_eq_true_eq, decide_eq_false_iff_not, Bool.not_eq_true', Bool.not_eq_false', beq_iff_eq, beq_eq_false_iff_ne, bne_iff_ne, bne_eq_false_iff_eq] at h) <;> (first | (exfalso; first | omega | exact h trivial | contradiction | (simp_all [eqRes]; done)) | (conv => whnf))) | (refine CondG.mk (fun h => ?_) (fun h => ?_) <;> (try simp only [decide_eq_true_eq, decide_eq_false_iff_not, Bool.not_eq_true', Bool.not_eq_false', beq_iff_eq, beq_eq_false_iff_ne, bne_iff_ne, bne_eq_false_iff_eq] at h) <;> (first | (exfalso; first | omega | exact h trivial | contradiction | (simp_all [eqRes]; done)) | (conv => whnf))) | (refine CallX.mk _ _ (by first | exact c2 | exact c1) ?_; conv => whnf) | (refine CallG.mk _ _ (by first | exact c2 | exact c1) ?_; conv => whnf) | (refine Ask.mk (by first | omega | (unfold roomOK; simp [cutRows]; done) | (unfold roomOK; simp [cutRows]; omega) | (simp [cutRows]; done) | (simp [cutRows]; omega)) ?_; conv => whnf) | (refine AppG.mk (by first | omega | (unfold roomOK; simp [cutRows]; done) | (unfold roomOK; simp [cutRows]; omega) | (simp [cutRows]; done) | (simp [cutRows]; omega)) ?_; conv => whnf) | (refine SliceG.fr ?_; conv => whnf) | (refine idx_at _ (by with_reducible rfl) (by first | assumption | omega) ?_; conv => whnf) | ((with_reducible refine row_map (by first | assumption | omega) ?_); conv => whnf) | ((with_reducible refine row_set (by first | assumption | omega | (simp only [List.length_set]; omega) | (simp; omega)) ?_); conv => whnf) | fail)
  refine loop_while (fun (n : Nat) => n) [] [0, 1, 7] (fun (n : Nat) => [(7, .c (.int .i64 (n : Int)))]) (fun (n : Nat) => []) (fun (n : Nat) => n ≤ l.length ∧ cntAt l t ≤ n) (l.length) ?_
  conv => whnf
  refine ⟨(by first | rfl | (simp; done) | (simp; rfl)), ?_, ?_⟩
  · exact ⟨Nat.le_refl _, hcl⟩
  · intro n ⟨h1, h2⟩
    have hmem : ∀ k (hk : k < l.length), l[k].mo ≤ t ↔ k < cntAt l t := fun k hk => by
      have := cnt_iff hf hk t
      rwa [moN_at hk] at this
    cases n with
    | zero =>
      have e0 : cntAt l t = 0 := by omega
      rw [e0] at c3 ⊢
      conv => whnf
      repeat' (first | (refine Split.mk (fun h => ?_) (fun h => ?_) <;> (try simp only [decide_eq_true_eq, decide_eq_false_iff_not, Bool.not_eq_true', Bool.not_eq_false', beq_iff_eq, beq_eq_false_iff_ne, bne_iff_ne, bne_eq_false_iff_eq] at h) <;> (first | (exfalso; first | omega | exact h trivial | contradiction | (simp_all [eqRes]; done)) | (conv => whnf))) | (refine CondG.mk (fun h => ?_) (fun h => ?_) <;> (try simp only [decide_eq_true_eq, decide_eq_false_iff_not, Bool.not_eq_true', Bool.not_eq_false', beq_iff_eq, beq_eq_false_iff_ne, bne_iff_ne, bne_eq_false_iff_eq] at h) <;> (first | (exfalso; first | omega | exact h trivial | contradiction | (simp_all [eqRes]; done)) | (conv => whnf))) | (refine CallX.mk _ _ (by first | exact c3) ?_; conv => whnf) | (refine CallG.mk _ _ (by first | exact c3) ?_; conv => whnf) | (refine Ask.mk (by first | omega | (unfold roomOK; simp [cutRows]; done) | (unfold roomOK; simp [cutRows]; omega) | (simp [cutRows]; done) | (simp [cutRows]; omega)) ?_; conv => whnf) | (refine AppG.mk (by first | omega | (unfold roomOK; simp [cutRows]; done) | (unfold roomOK; simp [cutRows]; omega) | (simp [cutRows]; done) | (simp [cutRows]; omega)) ?_; conv => whnf) | (refine SliceG.fr ?_; conv => whnf) | (refine idx_at _ (by with_reducible rfl) (by first | assumption | omega) ?_; conv => whnf) | ((with_reducible refine row_map (by first | assumption | omega) ?_); conv => whnf) | ((with_reducible refine row_set (by first | assumption | omega | (simp only [List.length_set]; omega) | (simp; omega)) ?_); conv => whnf) | fail)
      exact .mk ⟨rfl, rfl⟩
    | succ m =>
      have hk : m < l.length := by omega
      have hw : IntKind.i64.wrap (((m + 1 : Nat) : Int) - 1) = ((m : Nat) : Int) := by rw [wrap_in (by omega) (by omega)]; omega
      have h6 := hmem m hk
      by_cases h7 : m < cntAt l t
      · have h8 := h6.2 h7
        have e0 : cntAt l t = m + 1 := by omega
        rw [e0] at c3 ⊢
        conv => whnf
        repeat' (first | (refine Split.mk (fun h => ?_) (fun h => ?_) <;> (try simp only [decide_eq_true_eq, decide_eq_false_iff_not, Bool.not_eq_true', Bool.not_eq_false', beq_iff_eq, beq_eq_false_iff_ne, bne_iff_ne, bne_eq_false_iff_eq] at h) <;> (first | (exfalso; first | omega | exact h trivial | contradiction | (simp_all [eqRes]; done)) | (conv => whnf))) | (refine CondG.mk (fun h => ?_) (fun h => ?_) <;> (try simp only [decide_eq_true_eq, decide_eq_false_iff_not, Bool.not_eq_true', Bool.not_eq_false', beq_iff_eq, beq_eq_false_iff_ne, bne_iff_ne, bne_eq_false_iff_eq] at h) <;> (first | (exfalso; first | omega | exact h trivial | contradiction | (simp_all [eqRes]; done)) | (conv => whnf))) | (refine Ask.mk (by first | omega | (unfold roomOK; simp [cutRows]; done) | (unfold roomOK; simp [cutRows]; omega) | (simp [cutRows]; done) | (simp [cutRows]; omega)) ?_; conv => whnf) | (refine AppG.mk (by first | omega | (unfold roomOK; simp [cutRows]; done) | (unfold roomOK; simp [cutRows]; omega) | (simp [cutRows]; done) | (simp [cutRows]; omega)) ?_; conv => whnf) | (refine SliceG.fr ?_; conv => whnf) | (refine idx_at _ (by with_reducible rfl) (by first | assumption | omega) ?_; conv => whnf) | ((with_reducible refine row_map (by first | assumption | omega) ?_); conv => whnf) | ((with_reducible refine row_set (by first | assumption | omega | (simp only [List.length_set]; omega) | (simp; omega)) ?_); conv => whnf) | fail)
        rw [hw]
        repeat' (first | (refine Split.mk (fun h => ?_) (fun h => ?_) <;> (try simp only [decide_eq_true_eq, decide_eq_false_iff_not, Bool.not_eq_true', Bool.not_eq_false', beq_iff_eq, beq_eq_false_iff_ne, bne_iff_ne, bne_eq_false_iff_eq] at h) <;> (first | (exfalso; first | omega | exact h trivial | contradiction | (simp_all [eqRes]; done)) | (conv => whnf))) | (refine CondG.mk (fun h => ?_) (fun h => ?_) <;> (try simp only [decide_eq_true_eq, decide_eq_false_iff_not, Bool.not_eq_true', Bool.not_eq_false', beq_iff_eq, beq_eq_false_iff_ne, bne_iff_ne, bne_eq_false_iff_eq] at h) <;> (first | (exfalso; first | omega | exact h trivial | contradiction | (simp_all [eqRes]; done)) | (conv => whnf))) | (refine CallX.mk _ _ (by first | exact c3) ?_; conv => whnf) | (refine CallG.mk _ _ (by first | exact c3) ?_; conv => whnf) | (refine Ask.mk (by first | omega | (unfold roomOK; simp [cutRows]; done) | (unfold roomOK; simp [cutRows]; omega) | (simp [cutRows]; done) | (simp [cutRows]; omega)) ?_; conv => whnf) | (refine AppG.mk (by first | omega | (unfold roomOK; simp [cutRows]; done) | (unfold roomOK; simp [cutRows]; omega) | (simp [cutRows]; done) | (simp [cutRows]; omega)) ?_; conv => whnf) | (refine SliceG.fr ?_; conv => whnf) | (refine idx_at _ (by with_reducible rfl) (by first | assumption | omega) ?_; conv => whnf) | ((with_reducible refine row_map (by first | assumption | omega) ?_); conv => whnf) | ((with_reducible refine row_set (by first | assumption | omega | (simp only [List.length_set]; omega) | (simp; omega)) ?_); conv => whnf) | fail)
        exact .mk ⟨rfl, rfl⟩
      · have h8 : t < l[m].mo := by
          rcases Int.lt_or_le t l[m].mo with h9 | h9
          · exact h9
          · exact (h7 (h6.1 h9)).elim
        conv => whnf
        repeat' (first | (refine Split.mk (fun h => ?_) (fun h => ?_) <;> (try simp only [decide_eq_true_eq, decide_eq_false_iff_not, Bool.not_eq_true', Bool.not_eq_false', beq_iff_eq, beq_eq_false_iff_ne, bne_iff_ne, bne_eq_false_iff_eq] at h) <;> (first | (exfalso; first | omega | exact h trivial | contradiction | (simp_all [eqRes]; done)) | (conv => whnf))) | (refine CondG.mk (fun h => ?_) (fun h => ?_) <;> (try simp only [decide_eq_true_eq, decide_eq_false_iff_not, Bool.not_eq_true', Bool.not_eq_false', beq_iff_eq, beq_eq_false_iff_ne, bne_iff_ne, bne_eq_false_iff_eq] at h) <;> (first | (exfalso; first | omega | exact h trivial | contradiction | (simp_all [eqRes]; done)) | (conv => whnf))) | (refine Ask.mk (by first | omega | (unfold roomOK; simp [cutRows]; done) | (unfold roomOK; simp [cutRows]; omega) | (simp [cutRows]; done) | (simp [cutRows]; omega)) ?_; conv => whnf) | (refine AppG.mk (by first | omega | (unfold roomOK; simp [cutRows]; done) | (unfold roomOK; simp [cutRows]; omega) | (simp [cutRows]; done) | (simp [cutRows]; omega)) ?_; conv => whnf) | (refine SliceG.fr ?_; conv => whnf) | (refine idx_at _ (by with_reducible rfl) (by first | assumption | omega) ?_; conv => whnf) | ((with_reducible refine row_map (by first | assumption | omega) ?_); conv => whnf) | ((with_reducible refine row_set (by first | assumption | omega | (simp only [List.length_set]; omega) | (simp; omega)) ?_); conv => whnf) | fail)
        rw [hw]
        repeat' (first | (refine Split.mk (fun h => ?_) (fun h => ?_) <;> (try simp only [decide_eq_true_eq, decide_eq_false_iff_not, Bool.not_eq_true', Bool.not_eq_false', beq_iff_eq, beq_eq_false_iff_ne, bne_iff_ne, bne_eq_false_iff_eq] at h) <;> (first | (exfalso; first | omega | exact h trivial | contradiction | (simp_all [eqRes]; done)) | (conv => whnf))) | (refine CondG.mk (fun h => ?_) (fun h => ?_) <;> (try simp only [decide_eq_true_eq, decide_eq_false_iff_not, Bool.not_eq_true', Bool.not_eq_false', beq_iff_eq, beq_eq_false_iff_ne, bne_iff_ne, bne_eq_false_iff_eq] at h) <;> (first | (exfalso; first | omega | exact h trivial | contradiction | (simp_all [eqRes]; done)) | (conv => whnf))) | (refine Ask.mk (by first | omega | (unfold roomOK; simp [cutRows]; done) | (unfold roomOK; simp [cutRows]; omega) | (simp [cutRows]; done) | (simp [cutRows]; omega)) ?_; conv => whnf) | (refine AppG.mk (by first | omega | (unfold roomOK; simp [cutRows]; done) | (unfold roomOK; simp [cutRows]; omega) | (simp [cutRows]; done) | (simp [cutRows]; omega)) ?_; conv => whnf) | (refine SliceG.fr ?_; conv => whnf) | (refine idx_at _ (by with_reducible rfl) (by first | assumption | omega) ?_; conv => whnf) | ((with_reducible refine row_map (by first | assumption | omega) ?_); conv => whnf) | ((with_reducible refine row_set (by first | assumption | omega | (simp only [List.length_set]; omega) | (simp; omega)) ?_); conv => whnf) | fail)
        rw [hw]
        exact meas_next m (by omega) rfl ⟨by omega, by omega⟩
end Go.Proofs.YtllpjcgadfmipaaGreat
