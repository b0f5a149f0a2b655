/- Keys, numbers, strings: small functions, by the abstract walk. -/
import Derived.Test.YtjkammhjpjaekaaTab
import Derived.Test.YtjkammhjpjaekaaAbsY
import Derived.Lib.Hide
import Derived.Lib.Strings
import Derived.Lib.Slices
import Derived.Lib.Walk
import Derived.Lib.Bytealg
namespace Go.Proofs.Ytjkammhjpjaekaa
set_option linter.unusedVariables false
set_option linter.unusedSimpArgs false
open Abs

abbrev PCp := PCs Try.prog
abbrev PCq := PCx Try.prog
def mts : List Nat := [140, 156, 166, 105, 142, 158, 107, 159, 176, 185, 167, 168, 170, 171, 172, 173, 180]

theorem fin1 {m : Nat} {s r : S} {os os' : List Ob} (h : s = r) (ho : os = os') : FinR m r os' (oneOf [s]) os := .mk ⟨h, ho.symm ▸ rfl⟩
theorem finb {m : Nat} {a b : Bool} {os : List Ob} (h : a = b) : FinR m (.c (.bool b)) os (.c (.bool a)) os := .mk ⟨by rw [h], rfl⟩
theorem fini {m : Nat} {k : IntKind} {a b : Int} {os : List Ob} (h : a = b) : FinR m (.c (.int k b)) os (.c (.int k a)) os := .mk ⟨by rw [h], rfl⟩

set_option maxRecDepth 100000 in
set_option maxHeartbeats 4000000 in
theorem bOut_pc (n lo hi : Int) : PCp 93 [.c (.int .i64 n), .c (.int .i64 lo), .c (.int .i64 hi)] [] (.c (.bool (decide (n < lo ∨ hi < n)))) [] := by
  refine fn_sound (mt := mts) tab_fits tab_mixed Try.func93 (by rfl) (by kernel_rfl) (by kernel_rfl) Try.results93 (Nat.le_of_ble_eq_true (by kernel_rfl)) ?_
  conv => whnf
  repeat' (first
    | (refine Split.mk (fun h => ?_) (fun h => ?_) <;> (try simp only [decide_eq_true_eq, decide_eq_false_iff_not, Bool.not_eq_true', Bool.not_eq_false', beq_iff_eq, beq_eq_false_iff_ne] at h) <;> (first | (exfalso; first | omega | exact h trivial) | (conv => whnf)))
    | (refine CondG.mk (fun h => ?_) (fun h => ?_) <;> (try simp only [decide_eq_true_eq, decide_eq_false_iff_not, Bool.not_eq_true', Bool.not_eq_false', beq_iff_eq, beq_eq_false_iff_ne] at h) <;> (first | (exfalso; first | omega | exact h trivial) | (conv => whnf)))
    | (refine Ask.mk (by first | omega | (unfold roomOK; simp [cutRows]; done) | (unfold roomOK; simp [cutRows]; omega)) ?_; conv => whnf)
    | (refine SliceG.fr ?_; conv => whnf)
    | fail)
  all_goals exact finb (by simp_all <;> omega)
set_option maxRecDepth 100000 in
set_option maxHeartbeats 4000000 in
theorem rIn_pc (n lo hi : Int) : PCp 79 [.c (.int .i64 n), .c (.int .i64 lo), .c (.int .i64 hi)] [] (.c (.bool (decide (lo ≤ n ∧ n ≤ hi)))) [] := by
  refine fn_sound (mt := mts) tab_fits tab_mixed Try.func79 (by rfl) (by kernel_rfl) (by kernel_rfl) Try.results79 (Nat.le_of_ble_eq_true (by kernel_rfl)) ?_
  conv => whnf
  repeat' (first
    | (refine Split.mk (fun h => ?_) (fun h => ?_) <;> (try simp only [decide_eq_true_eq, decide_eq_false_iff_not, Bool.not_eq_true', Bool.not_eq_false', beq_iff_eq, beq_eq_false_iff_ne] at h) <;> (first | (exfalso; first | omega | exact h trivial) | (conv => whnf)))
    | (refine CondG.mk (fun h => ?_) (fun h => ?_) <;> (try simp only [decide_eq_true_eq, decide_eq_false_iff_not, Bool.not_eq_true', Bool.not_eq_false', beq_iff_eq, beq_eq_false_iff_ne] at h) <;> (first | (exfalso; first | omega | exact h trivial) | (conv => whnf)))
    | (refine Ask.mk (by first | omega | (unfold roomOK; simp [cutRows]; done) | (unfold roomOK; simp [cutRows]; omega)) ?_; conv => whnf)
    | (refine SliceG.fr ?_; conv => whnf)
    | fail)
  all_goals exact finb (by simp_all <;> omega)
set_option maxRecDepth 100000 in
set_option maxHeartbeats 4000000 in
theorem when_pc (b : Bool) (n : Int) : PCp 18 [.c (.bool b), .c (.int .i64 n)] [] (.c (.int .i64 (if b then n else 0))) [] := by
  refine fn_sound (mt := mts) tab_fits tab_mixed Try.func18 (by rfl) (by kernel_rfl) (by kernel_rfl) Try.results18 (Nat.le_of_ble_eq_true (by kernel_rfl)) ?_
  conv => whnf
  repeat' (first
    | (refine Split.mk (fun h => ?_) (fun h => ?_) <;> (try simp only [decide_eq_true_eq, decide_eq_false_iff_not, Bool.not_eq_true', Bool.not_eq_false', beq_iff_eq, beq_eq_false_iff_ne] at h) <;> (first | (exfalso; first | omega | exact h trivial) | (conv => whnf)))
    | (refine CondG.mk (fun h => ?_) (fun h => ?_) <;> (try simp only [decide_eq_true_eq, decide_eq_false_iff_not, Bool.not_eq_true', Bool.not_eq_false', beq_iff_eq, beq_eq_false_iff_ne] at h) <;> (first | (exfalso; first | omega | exact h trivial) | (conv => whnf)))
    | (refine Ask.mk (by first | omega | (unfold roomOK; simp [cutRows]; done) | (unfold roomOK; simp [cutRows]; omega)) ?_; conv => whnf)
    | (refine SliceG.fr ?_; conv => whnf)
    | fail)
  all_goals exact fini (by simp_all <;> omega)

def isKeyC (c : Int) : Bool := decide (97 ≤ c ∧ c ≤ 122) || (decide (48 ≤ c ∧ c ≤ 57) || (c == 45 || c == 95))
def keyB (s : ByteArray) : Bool := decide (0 < s.size ∧ s.size ≤ 40 ∧ 97 ≤ byteAt s 0 ∧ byteAt s 0 ≤ 122 ∧ ∀ i, i < s.size → isKeyC (byteAt s i) = true)
theorem all_succ {p : Nat → Prop} {k : Nat} (h : ∀ i, i < k → p i) (hk : p k) : ∀ i, i < k + 1 → p i := fun i hi => by
  rcases Nat.lt_or_ge i k with h1 | h1
  · exact h i h1
  · have : i = k := by omega
    subst this; exact hk
theorem size_nil (s : ByteArray) : (s.toList == (⟨#[]⟩ : ByteArray).toList) = decide (s.size = 0) := by
  rw [ByteArray.toList_eq, ByteArray.toList_eq]
  obtain ⟨⟨x⟩⟩ := s
  cases x with
  | nil => rfl
  | cons a r => rfl
set_option maxRecDepth 100000 in
set_option maxHeartbeats 4000000 in
theorem bKey_pc (s : ByteArray) : PCp 92 [.c (.str s)] [] (.c (.bool (keyB s))) [] := by
  refine fn_sound (mt := mts) tab_fits tab_mixed Try.func92 (by rfl) (by kernel_rfl) (by kernel_rfl) Try.results92 (Nat.le_of_ble_eq_true (by kernel_rfl)) ?_
  conv => whnf
  rw [size_nil]
  repeat' (first
    | (refine Split.mk (fun h => ?_) (fun h => ?_) <;> (try simp only [decide_eq_true_eq, decide_eq_false_iff_not, Bool.not_eq_true', Bool.not_eq_false', beq_iff_eq, beq_eq_false_iff_ne] at h) <;> (first | (exfalso; first | omega | exact h trivial) | (conv => whnf)))
    | (refine CondG.mk (fun h => ?_) (fun h => ?_) <;> (try simp only [decide_eq_true_eq, decide_eq_false_iff_not, Bool.not_eq_true', Bool.not_eq_false', beq_iff_eq, beq_eq_false_iff_ne] at h) <;> (first | (exfalso; first | omega | exact h trivial) | (conv => whnf)))
    | (refine Ask.mk (by first | omega | (unfold roomOK; simp [cutRows]; done) | (unfold roomOK; simp [cutRows]; omega)) ?_; conv => whnf)
    | (refine SliceG.fr ?_; conv => whnf)
    | fail)
  all_goals try exact finb (by simp_all [keyB] <;> omega)
  refine loop_count (s.size) [] [0, 23, 24] (fun k (_ : Unit) => ⟨[(0, .c (.str s)), (23, .c (.int .i64 s.size)), (24, .c (.int .i64 k))], [], 0⟩) (fun k (_ : Unit) => ∀ i, i < k → isKeyC (byteAt s i) = true) (()) ?_ ?_ ?_
  · conv => whnf
    exact ⟨rfl, by simp⟩
  · intro k _ hk hi
    conv => whnf
    repeat' (first
      | (refine Split.mk (fun h => ?_) (fun h => ?_) <;> (try simp only [decide_eq_true_eq, decide_eq_false_iff_not, Bool.not_eq_true', Bool.not_eq_false', beq_iff_eq, beq_eq_false_iff_ne] at h) <;> (first | (exfalso; first | omega | exact h trivial) | (conv => whnf)))
      | (refine CondG.mk (fun h => ?_) (fun h => ?_) <;> (try simp only [decide_eq_true_eq, decide_eq_false_iff_not, Bool.not_eq_true', Bool.not_eq_false', beq_iff_eq, beq_eq_false_iff_ne] at h) <;> (first | (exfalso; first | omega | exact h trivial) | (conv => whnf)))
      | (refine Ask.mk (by first | omega | (unfold roomOK; simp [cutRows]; done) | (unfold roomOK; simp [cutRows]; omega)) ?_; conv => whnf)
      | (refine SliceG.fr ?_; conv => whnf)
      | fail)
    all_goals first
      | exact finb (by rw [eq_comm, keyB, decide_eq_false_iff_not]; intro hh; have h5 := hh.2.2.2.2 k hk; simp_all [isKeyC] <;> omega)
      | skip
    all_goals (refine count_next () hk (by rw [wrap_succ hk (by omega)]; rfl) (all_succ hi ?_); simp_all [isKeyC] <;> omega)
  · intro _ hi
    conv => whnf
    repeat' (first
      | (refine Split.mk (fun h => ?_) (fun h => ?_) <;> (try simp only [decide_eq_true_eq, decide_eq_false_iff_not, Bool.not_eq_true', Bool.not_eq_false', beq_iff_eq, beq_eq_false_iff_ne] at h) <;> (first | (exfalso; first | omega | exact h trivial) | (conv => whnf)))
      | (refine CondG.mk (fun h => ?_) (fun h => ?_) <;> (try simp only [decide_eq_true_eq, decide_eq_false_iff_not, Bool.not_eq_true', Bool.not_eq_false', beq_iff_eq, beq_eq_false_iff_ne] at h) <;> (first | (exfalso; first | omega | exact h trivial) | (conv => whnf)))
      | (refine Ask.mk (by first | omega | (unfold roomOK; simp [cutRows]; done) | (unfold roomOK; simp [cutRows]; omega)) ?_; conv => whnf)
      | (refine SliceG.fr ?_; conv => whnf)
      | fail)
    exact finb (by rw [eq_comm, keyB, decide_eq_true_iff]; exact ⟨by omega, by omega, by simp_all <;> omega, by simp_all <;> omega, hi⟩)

theorem PCs.of_same {P : Program} {f : Nat} {args : List S} {r : S} {cargs : Array Value} {c : Value} (hfn : ∃ fn, P.funcs[f]? = some fn ∧ (fn.name == "runtime.NumGoroutine") = false ∧ fn.body.isNone = false)
    (ha : ∀ (F : Nat → Prop) (φ : Nat → Option Value) (w : World) (cs : Array Value), P2 (RS F φ w) cs.toList args → cs = cargs) (hr : ∀ (F : Nat → Prop) (φ : Nat → Option Value) (w : World), RS F φ w c r) (h : ∀ w, Calls P f cargs w fun e w' => e = .returned c ∧ w' = w) : PCs P f args [] r [] := by
  refine ⟨hfn, fun F φ w cs hp hrp hφ => ?_⟩
  have := ha F φ w cs hp
  subst this
  refine (h w).mono ?_
  rintro e w' ⟨rfl, rfl⟩
  exact ⟨c, F, φ, r, [], ⟨rfl, rfl⟩, rfl, hr F φ w', Nx.refl⟩
theorem args2 {F : Nat → Prop} {φ : Nat → Option Value} {w : World} {cs : Array Value} {s1 s2 : S} {c1 c2 : Value} (h1 : ∀ c, RS F φ w c s1 → c = c1) (h2 : ∀ c, RS F φ w c s2 → c = c2) (hp : P2 (RS F φ w) cs.toList [s1, s2]) : cs = #[c1, c2] := by
  obtain ⟨x, xs, e1, r1, hp⟩ := hp.cons_inv
  obtain ⟨y, ys, e2, r2, hp⟩ := hp.cons_inv
  have := hp.nil_inv
  subst this
  subst e2
  apply Array.ext'
  rw [e1, h1 x r1, h2 y r2]

set_option maxHeartbeats 1000000 in
set_option maxRecDepth 100000 in
theorem slIndexByte_calls (s : ByteArray) (c : Int) (w : World) :
    Calls Try.prog 163 #[.string s, .int .u8 c] w fun e w' => e = .returned (.int .i64 (Lib.indexByte s.data.toList c.toNat.toUInt8)) ∧ w' = w := by
  go_enter Try.func163, Try.ntmps163
  go_wp2
  rw [run_callFunc_extern Try.func179 (by kernel_rfl) (by kernel_rfl) (by kernel_rfl) (e := Extern.BytealgIndexByte.indexByte) (by kernel_rfl), Lib.run_indexByteString]
  simp only [Result.andThen]
  rw [Oper.upon_value]
  go_wp2
  go_ret
  exact ⟨rfl, rfl⟩
set_option maxHeartbeats 1000000 in
set_option maxRecDepth 100000 in
theorem baCompare_calls (a b : ByteArray) (w : World) :
    Calls Try.prog 151 #[.string a, .string b] w fun e w' => e = .returned (.int .i64 (Lib.compareBytes a.data.toList b.data.toList)) ∧ w' = w := by
  go_enter Try.func151, Try.ntmps151
  go_wp2
  rw [run_callFunc_extern Try.func162 (by kernel_rfl) (by kernel_rfl) (by kernel_rfl) (e := Extern.BytealgCompare.compare) (by kernel_rfl), Lib.run_compareString]
  simp only [Result.andThen]
  rw [Oper.upon_value]
  go_wp2
  go_ret
  exact ⟨rfl, rfl⟩
theorem slIndexByte_pc (s : ByteArray) (c : Int) : PCp 163 [.c (.str s), .c (.int .u8 c)] [] (.c (.int .i64 (Lib.indexByte s.data.toList c.toNat.toUInt8))) [] :=
  PCs.of_same ⟨_, Try.func163, by kernel_rfl, by kernel_rfl⟩ (fun F φ w cs hp => args2 (fun c h => h.str_inv) (fun c h => h.int_inv) hp) (fun F φ w => RS.mki _ _) (slIndexByte_calls s c)
theorem baCompare_pc (a b : ByteArray) : PCp 151 [.c (.str a), .c (.str b)] [] (.c (.int .i64 (Lib.compareBytes a.data.toList b.data.toList))) [] :=
  PCs.of_same ⟨_, Try.func151, by kernel_rfl, by kernel_rfl⟩ (fun F φ w cs hp => args2 (fun c h => h.str_inv) (fun c h => h.str_inv) hp) (fun F φ w => RS.mki _ _) (baCompare_calls a b)
set_option maxRecDepth 100000 in
set_option maxHeartbeats 4000000 in
theorem sIndexByte_pc (s : ByteArray) (c : Int) : PCp 152 [.c (.str s), .c (.int .u8 c)] [] (.c (.int .i64 (Lib.indexByte s.data.toList c.toNat.toUInt8))) [] := by
  refine fn_sound (mt := mts) tab_fits tab_mixed Try.func152 (by rfl) (by kernel_rfl) (by kernel_rfl) Try.results152 (Nat.le_of_ble_eq_true (by kernel_rfl)) ?_
  conv => whnf
  repeat' (first
    | (refine Split.mk (fun h => ?_) (fun h => ?_) <;> (try simp only [decide_eq_true_eq, decide_eq_false_iff_not, Bool.not_eq_true', Bool.not_eq_false', beq_iff_eq, beq_eq_false_iff_ne] at h) <;> (first | (exfalso; first | omega | exact h trivial) | (conv => whnf)))
    | (refine CondG.mk (fun h => ?_) (fun h => ?_) <;> (try simp only [decide_eq_true_eq, decide_eq_false_iff_not, Bool.not_eq_true', Bool.not_eq_false', beq_iff_eq, beq_eq_false_iff_ne] at h) <;> (first | (exfalso; first | omega | exact h trivial) | (conv => whnf)))
    | (refine CallX.mk _ _ (by first | exact slIndexByte_pc _ _) ?_; conv => whnf)
    | (refine CallG.mk _ _ (by first | exact slIndexByte_pc _ _) ?_; conv => whnf)
    | (refine Ask.mk (by first | omega | (unfold roomOK; simp [cutRows]; done) | (unfold roomOK; simp [cutRows]; omega)) ?_; conv => whnf)
    | (refine SliceG.fr ?_; conv => whnf)
    | fail)
  exact fini rfl
def cmpS (a b : ByteArray) : Int := Lib.compareBytes a.data.toList b.data.toList
set_option maxRecDepth 100000 in
set_option maxHeartbeats 4000000 in
theorem sCompare_pc (a b : ByteArray) : PCp 129 [.c (.str a), .c (.str b)] [] (.c (.int .i64 (cmpS a b))) [] := by
  refine fn_sound (mt := mts) tab_fits tab_mixed Try.func129 (by rfl) (by kernel_rfl) (by kernel_rfl) Try.results129 (Nat.le_of_ble_eq_true (by kernel_rfl)) ?_
  conv => whnf
  repeat' (first
    | (refine Split.mk (fun h => ?_) (fun h => ?_) <;> (try simp only [decide_eq_true_eq, decide_eq_false_iff_not, Bool.not_eq_true', Bool.not_eq_false', beq_iff_eq, beq_eq_false_iff_ne] at h) <;> (first | (exfalso; first | omega | exact h trivial) | (conv => whnf)))
    | (refine CondG.mk (fun h => ?_) (fun h => ?_) <;> (try simp only [decide_eq_true_eq, decide_eq_false_iff_not, Bool.not_eq_true', Bool.not_eq_false', beq_iff_eq, beq_eq_false_iff_ne] at h) <;> (first | (exfalso; first | omega | exact h trivial) | (conv => whnf)))
    | (refine CallX.mk _ _ (by first | exact baCompare_pc _ _) ?_; conv => whnf)
    | (refine CallG.mk _ _ (by first | exact baCompare_pc _ _) ?_; conv => whnf)
    | (refine Ask.mk (by first | omega | (unfold roomOK; simp [cutRows]; done) | (unfold roomOK; simp [cutRows]; omega)) ?_; conv => whnf)
    | (refine SliceG.fr ?_; conv => whnf)
    | fail)
  exact fini rfl

def onlyB (s t : ByteArray) : Bool := decide (∀ i, i < s.size → 0 ≤ Lib.indexByte t.data.toList (byteAt s i).toNat.toUInt8)
set_option maxRecDepth 100000 in
set_option maxHeartbeats 4000000 in
theorem only_pc (s t : ByteArray) (hs : s.size ≤ 1000000) : PCp 130 [.c (.str s), .c (.str t)] [] (.c (.bool (onlyB s t))) [] := by
  refine fn_sound (mt := mts) tab_fits tab_mixed Try.func130 (by rfl) (by kernel_rfl) (by kernel_rfl) Try.results130 (Nat.le_of_ble_eq_true (by kernel_rfl)) ?_
  conv => whnf
  refine loop_count (s.size) [] [0, 1, 7, 8] (fun k (_ : Unit) => ⟨[(0, .c (.str s)), (1, .c (.str t)), (7, .c (.int .i64 s.size)), (8, .c (.int .i64 k))], [], 0⟩) (fun k (_ : Unit) => ∀ i, i < k → 0 ≤ Lib.indexByte t.data.toList (byteAt s i).toNat.toUInt8) (()) ?_ ?_ ?_
  · conv => whnf
    exact ⟨rfl, by simp⟩
  · intro k _ hk hi
    conv => whnf
    repeat' (first
      | (refine Split.mk (fun h => ?_) (fun h => ?_) <;> (try simp only [decide_eq_true_eq, decide_eq_false_iff_not, Bool.not_eq_true', Bool.not_eq_false', beq_iff_eq, beq_eq_false_iff_ne] at h) <;> (first | (exfalso; first | omega | exact h trivial) | (conv => whnf)))
      | (refine CondG.mk (fun h => ?_) (fun h => ?_) <;> (try simp only [decide_eq_true_eq, decide_eq_false_iff_not, Bool.not_eq_true', Bool.not_eq_false', beq_iff_eq, beq_eq_false_iff_ne] at h) <;> (first | (exfalso; first | omega | exact h trivial) | (conv => whnf)))
      | (refine CallX.mk _ _ (by first | exact sIndexByte_pc _ _) ?_; conv => whnf)
      | (refine CallG.mk _ _ (by first | exact sIndexByte_pc _ _) ?_; conv => whnf)
      | (refine Ask.mk (by first | omega | (unfold roomOK; simp [cutRows]; done) | (unfold roomOK; simp [cutRows]; omega)) ?_; conv => whnf)
      | (refine SliceG.fr ?_; conv => whnf)
      | fail)
    · exact finb (by rw [eq_comm, onlyB, decide_eq_false_iff_not]; intro hh; have h5 := hh k hk; exact absurd h (Int.not_lt.2 h5))
    · refine count_next () hk (by rw [wrap_succ hk (by omega)]; rfl) ?_
      exact all_succ hi (Int.not_lt.1 h)
  · intro _ hi
    conv => whnf
    repeat' (first
      | (refine Split.mk (fun h => ?_) (fun h => ?_) <;> (try simp only [decide_eq_true_eq, decide_eq_false_iff_not, Bool.not_eq_true', Bool.not_eq_false', beq_iff_eq, beq_eq_false_iff_ne] at h) <;> (first | (exfalso; first | omega | exact h trivial) | (conv => whnf)))
      | (refine CondG.mk (fun h => ?_) (fun h => ?_) <;> (try simp only [decide_eq_true_eq, decide_eq_false_iff_not, Bool.not_eq_true', Bool.not_eq_false', beq_iff_eq, beq_eq_false_iff_ne] at h) <;> (first | (exfalso; first | omega | exact h trivial) | (conv => whnf)))
      | (refine Ask.mk (by first | omega | (unfold roomOK; simp [cutRows]; done) | (unfold roomOK; simp [cutRows]; omega)) ?_; conv => whnf)
      | (refine SliceG.fr ?_; conv => whnf)
      | fail)
    exact finb (by rw [eq_comm, onlyB, decide_eq_true_iff]; exact hi)
/-- a list that is given back, or nil -/
theorem fini' {m : Nat} {k : IntKind} {a b : Int} {os os' : List Ob} (h : a = b) (ho : os = os') : FinR m (.c (.int k b)) os' (.c (.int k a)) os := .mk ⟨by rw [h], ho⟩
theorem finl {m : Nat} {sz : Nat} {rows rows' : List (List V)} {os t : List Ob} {l : Nat} (ho : (os ++ t)[l]? = some (.frow sz rows)) (h : rows = rows') (hm : m ≤ os.length) : FinR m (.c (.lst sz rows')) os (.c (.row l)) (os ++ t) := by
  subst h; exact .weak t (.fro l sz rows ho) rfl hm
end Go.Proofs.Ytjkammhjpjaekaa