/- Parts of the proof, in order. -/
import Derived.Test.YtmdcgimpgoacdaaGreatDoorTab
import Derived.Test.YtmdcgimpgoacdaaGreatDoorAbsY
import Derived.Lib.Hide
import Derived.Lib.Strings
import Derived.Lib.Slices
import Derived.Lib.Walk
import Derived.Lib.Bytealg
import Derived.Test.YtmdcgimpgoacdaaGreatDoorWrap
import Derived.Test.YtmdcgimpgoacdaaGreatDoorAbsZ
import Derived.Test.YtmdcgimpgoacdaaGreatDoorSort
import Derived.Test.YtmdcgimpgoacdaaGreatDoorLay
import Derived.Test.YtmdcgimpgoacdaaGreatDoorLoop

/- Keys, numbers, strings: small functions, by the abstract walk. -/
namespace Go.Proofs.YtmdcgimpgoacdaaGreatDoor
set_option linter.unusedVariables false
set_option linter.unusedSimpArgs false
open Abs

abbrev PCp := PCs Tryz.prog
abbrev PCq := PCx Tryz.prog
def mts : List Nat := [50, 89, 115, 41, 84, 113, 43, 114, 154, 190, 116, 117, 119, 120, 121, 122, 155, 92, 126, 160, 56, 95]

theorem fin1 {m : Nat} {s r : S} {os os' : List Ob} (h : s = r) (ho : os = os') : FinR m r os' (oneOf [s]) os := .mk ⟨h, ho.symm ▸ rfl⟩
theorem finb {m : Nat} {a b : Bool} {os : List Ob} (h : a = b) : FinR m (.c (.bool b)) os (.c (.bool a)) os := .mk ⟨by rw [h], rfl⟩
theorem fini {m : Nat} {k : IntKind} {a b : Int} {os : List Ob} (h : a = b) : FinR m (.c (.int k b)) os (.c (.int k a)) os := .mk ⟨by rw [h], rfl⟩

set_option maxRecDepth 100000 in
set_option maxHeartbeats 4000000 in
theorem bOut_pc (n lo hi : Int) : PCp 97 [.c (.int .i64 n), .c (.int .i64 lo), .c (.int .i64 hi)] [] (.c (.bool (decide (n < lo ∨ hi < n)))) [] := by
  refine fn_sound (mt := mts) tab_fits tab_mixed Tryz.func97 (by rfl) (by kernel_rfl) (by kernel_rfl) Tryz.results97 (Nat.le_of_ble_eq_true (by kernel_rfl)) ?_
  conv => whnf
  repeat' (first
    | (refine Split.mk (fun h => ?_) (fun h => ?_) <;> (try simp only [decide_eq_true_eq, decide_eq_false_iff_not, Bool.not_eq_true', Bool.not_eq_false', beq_iff_eq, beq_eq_false_iff_ne] at h) <;> (first | (exfalso; first | omega | exact h trivial) | (conv => whnf)))
    | (refine CondG.mk (fun h => ?_) (fun h => ?_) <;> (try simp only [decide_eq_true_eq, decide_eq_false_iff_not, Bool.not_eq_true', Bool.not_eq_false', beq_iff_eq, beq_eq_false_iff_ne] at h) <;> (first | (exfalso; first | omega | exact h trivial) | (conv => whnf)))
    | (refine Ask.mk (by first | omega | (unfold roomOK; simp [cutRows]; done) | (unfold roomOK; simp [cutRows]; omega)) ?_; conv => whnf)
    | (refine SliceG.fr ?_; conv => whnf)
    | fail)
  all_goals exact finb (by simp_all <;> omega)
set_option maxRecDepth 100000 in
set_option maxHeartbeats 4000000 in
theorem rIn_pc (n lo hi : Int) : PCp 74 [.c (.int .i64 n), .c (.int .i64 lo), .c (.int .i64 hi)] [] (.c (.bool (decide (lo ≤ n ∧ n ≤ hi)))) [] := by
  refine fn_sound (mt := mts) tab_fits tab_mixed Tryz.func74 (by rfl) (by kernel_rfl) (by kernel_rfl) Tryz.results74 (Nat.le_of_ble_eq_true (by kernel_rfl)) ?_
  conv => whnf
  repeat' (first
    | (refine Split.mk (fun h => ?_) (fun h => ?_) <;> (try simp only [decide_eq_true_eq, decide_eq_false_iff_not, Bool.not_eq_true', Bool.not_eq_false', beq_iff_eq, beq_eq_false_iff_ne] at h) <;> (first | (exfalso; first | omega | exact h trivial) | (conv => whnf)))
    | (refine CondG.mk (fun h => ?_) (fun h => ?_) <;> (try simp only [decide_eq_true_eq, decide_eq_false_iff_not, Bool.not_eq_true', Bool.not_eq_false', beq_iff_eq, beq_eq_false_iff_ne] at h) <;> (first | (exfalso; first | omega | exact h trivial) | (conv => whnf)))
    | (refine Ask.mk (by first | omega | (unfold roomOK; simp [cutRows]; done) | (unfold roomOK; simp [cutRows]; omega)) ?_; conv => whnf)
    | (refine SliceG.fr ?_; conv => whnf)
    | fail)
  all_goals exact finb (by simp_all <;> omega)
def isKeyC (c : Int) : Bool := decide (97 ≤ c ∧ c ≤ 122) || (decide (48 ≤ c ∧ c ≤ 57) || (c == 45 || c == 95))
def keyB (s : ByteArray) : Bool := decide (0 < s.size ∧ s.size ≤ 40 ∧ 97 ≤ byteAt s 0 ∧ byteAt s 0 ≤ 122 ∧ ∀ i, i < s.size → isKeyC (byteAt s i) = true)
theorem all_succ {p : Nat → Prop} {k : Nat} (h : ∀ i, i < k → p i) (hk : p k) : ∀ i, i < k + 1 → p i := fun i hi => by
  rcases Nat.lt_or_ge i k with h1 | h1
  · exact h i h1
  · have : i = k := by omega
    subst this; exact hk
theorem size_nil (s : ByteArray) : (s.toList == (⟨#[]⟩ : ByteArray).toList) = decide (s.size = 0) := by
  rw [ByteArray.toList_eq, ByteArray.toList_eq]
  obtain ⟨⟨x⟩⟩ := s
  cases x with
  | nil => rfl
  | cons a r => rfl
set_option maxRecDepth 100000 in
set_option maxHeartbeats 4000000 in
theorem bKey_pc (s : ByteArray) : PCp 98 [.c (.str s)] [] (.c (.bool (keyB s))) [] := by
  refine fn_sound (mt := mts) tab_fits tab_mixed Tryz.func98 (by rfl) (by kernel_rfl) (by kernel_rfl) Tryz.results98 (Nat.le_of_ble_eq_true (by kernel_rfl)) ?_
  conv => whnf
  rw [size_nil]
  repeat' (first
    | (refine Split.mk (fun h => ?_) (fun h => ?_) <;> (try simp only [decide_eq_true_eq, decide_eq_false_iff_not, Bool.not_eq_true', Bool.not_eq_false', beq_iff_eq, beq_eq_false_iff_ne] at h) <;> (first | (exfalso; first | omega | exact h trivial) | (conv => whnf)))
    | (refine CondG.mk (fun h => ?_) (fun h => ?_) <;> (try simp only [decide_eq_true_eq, decide_eq_false_iff_not, Bool.not_eq_true', Bool.not_eq_false', beq_iff_eq, beq_eq_false_iff_ne] at h) <;> (first | (exfalso; first | omega | exact h trivial) | (conv => whnf)))
    | (refine Ask.mk (by first | omega | (unfold roomOK; simp [cutRows]; done) | (unfold roomOK; simp [cutRows]; omega)) ?_; conv => whnf)
    | (refine SliceG.fr ?_; conv => whnf)
    | fail)
  all_goals try exact finb (by simp_all [keyB] <;> omega)
  refine loop_count (s.size) [] [0, 23, 24] (fun k (_ : Unit) => ⟨[(0, .c (.str s)), (23, .c (.int .i64 s.size)), (24, .c (.int .i64 k))], [], 0⟩) (fun k (_ : Unit) => ∀ i, i < k → isKeyC (byteAt s i) = true) (()) ?_ ?_ ?_
  · conv => whnf
    exact ⟨rfl, by simp⟩
  · intro k _ hk hi
    conv => whnf
    repeat' (first
      | (refine Split.mk (fun h => ?_) (fun h => ?_) <;> (try simp only [decide_eq_true_eq, decide_eq_false_iff_not, Bool.not_eq_true', Bool.not_eq_false', beq_iff_eq, beq_eq_false_iff_ne] at h) <;> (first | (exfalso; first | omega | exact h trivial) | (conv => whnf)))
      | (refine CondG.mk (fun h => ?_) (fun h => ?_) <;> (try simp only [decide_eq_true_eq, decide_eq_false_iff_not, Bool.not_eq_true', Bool.not_eq_false', beq_iff_eq, beq_eq_false_iff_ne] at h) <;> (first | (exfalso; first | omega | exact h trivial) | (conv => whnf)))
      | (refine Ask.mk (by first | omega | (unfold roomOK; simp [cutRows]; done) | (unfold roomOK; simp [cutRows]; omega)) ?_; conv => whnf)
      | (refine SliceG.fr ?_; conv => whnf)
      | fail)
    all_goals first
      | exact finb (by rw [eq_comm, keyB, decide_eq_false_iff_not]; intro hh; have h5 := hh.2.2.2.2 k hk; simp_all [isKeyC] <;> omega)
      | skip
    all_goals (refine count_next () hk (by rw [wrap_succ hk (by omega)]; rfl) (all_succ hi ?_); simp_all [isKeyC] <;> omega)
  · intro _ hi
    conv => whnf
    repeat' (first
      | (refine Split.mk (fun h => ?_) (fun h => ?_) <;> (try simp only [decide_eq_true_eq, decide_eq_false_iff_not, Bool.not_eq_true', Bool.not_eq_false', beq_iff_eq, beq_eq_false_iff_ne] at h) <;> (first | (exfalso; first | omega | exact h trivial) | (conv => whnf)))
      | (refine CondG.mk (fun h => ?_) (fun h => ?_) <;> (try simp only [decide_eq_true_eq, decide_eq_false_iff_not, Bool.not_eq_true', Bool.not_eq_false', beq_iff_eq, beq_eq_false_iff_ne] at h) <;> (first | (exfalso; first | omega | exact h trivial) | (conv => whnf)))
      | (refine Ask.mk (by first | omega | (unfold roomOK; simp [cutRows]; done) | (unfold roomOK; simp [cutRows]; omega)) ?_; conv => whnf)
      | (refine SliceG.fr ?_; conv => whnf)
      | fail)
    exact finb (by rw [eq_comm, keyB, decide_eq_true_iff]; exact ⟨by omega, by omega, by simp_all <;> omega, by simp_all <;> omega, hi⟩)

theorem PCs.of_same {P : Program} {f : Nat} {args : List S} {r : S} {cargs : Array Value} {c : Value} (hfn : ∃ fn, P.funcs[f]? = some fn ∧ (fn.name == "runtime.NumGoroutine") = false ∧ fn.body.isNone = false)
    (ha : ∀ (F : Nat → Prop) (φ : Nat → Option Value) (w : World) (cs : Array Value), P2 (RS F φ w) cs.toList args → cs = cargs) (hr : ∀ (F : Nat → Prop) (φ : Nat → Option Value) (w : World), RS F φ w c r) (h : ∀ w, Calls P f cargs w fun e w' => e = .returned c ∧ w' = w) : PCs P f args [] r [] := by
  refine ⟨hfn, fun F φ w cs hp hrp hφ => ?_⟩
  have := ha F φ w cs hp
  subst this
  refine (h w).mono ?_
  rintro e w' ⟨rfl, rfl⟩
  exact ⟨c, F, φ, r, [], ⟨rfl, rfl⟩, rfl, hr F φ w', Nx.refl⟩
theorem args2 {F : Nat → Prop} {φ : Nat → Option Value} {w : World} {cs : Array Value} {s1 s2 : S} {c1 c2 : Value} (h1 : ∀ c, RS F φ w c s1 → c = c1) (h2 : ∀ c, RS F φ w c s2 → c = c2) (hp : P2 (RS F φ w) cs.toList [s1, s2]) : cs = #[c1, c2] := by
  obtain ⟨x, xs, e1, r1, hp⟩ := hp.cons_inv
  obtain ⟨y, ys, e2, r2, hp⟩ := hp.cons_inv
  have := hp.nil_inv
  subst this
  subst e2
  apply Array.ext'
  rw [e1, h1 x r1, h2 y r2]

set_option maxHeartbeats 1000000 in
set_option maxRecDepth 100000 in
theorem slIndexByte_calls (s : ByteArray) (c : Int) (w : World) :
    Calls Tryz.prog 186 #[.string s, .int .u8 c] w fun e w' => e = .returned (.int .i64 (Lib.indexByte s.data.toList c.toNat.toUInt8)) ∧ w' = w := by
  go_enter Tryz.func186, Tryz.ntmps186
  go_wp2
  rw [run_callFunc_extern Tryz.func204 (by kernel_rfl) (by kernel_rfl) (by kernel_rfl) (e := Extern.BytealgIndexByte.indexByte) (by kernel_rfl), Lib.run_indexByteString]
  simp only [Result.andThen]
  rw [Oper.upon_value]
  go_wp2
  go_ret
  exact ⟨rfl, rfl⟩
set_option maxHeartbeats 1000000 in
set_option maxRecDepth 100000 in
theorem baCompare_calls (a b : ByteArray) (w : World) :
    Calls Tryz.prog 91 #[.string a, .string b] w fun e w' => e = .returned (.int .i64 (Lib.compareBytes a.data.toList b.data.toList)) ∧ w' = w := by
  go_enter Tryz.func91, Tryz.ntmps91
  go_wp2
  rw [run_callFunc_extern Tryz.func125 (by kernel_rfl) (by kernel_rfl) (by kernel_rfl) (e := Extern.BytealgCompare.compare) (by kernel_rfl), Lib.run_compareString]
  simp only [Result.andThen]
  rw [Oper.upon_value]
  go_wp2
  go_ret
  exact ⟨rfl, rfl⟩
theorem slIndexByte_pc (s : ByteArray) (c : Int) : PCp 186 [.c (.str s), .c (.int .u8 c)] [] (.c (.int .i64 (Lib.indexByte s.data.toList c.toNat.toUInt8))) [] :=
  PCs.of_same ⟨_, Tryz.func186, by kernel_rfl, by kernel_rfl⟩ (fun F φ w cs hp => args2 (fun c h => h.str_inv) (fun c h => h.int_inv) hp) (fun F φ w => RS.mki _ _) (slIndexByte_calls s c)
theorem baCompare_pc (a b : ByteArray) : PCp 91 [.c (.str a), .c (.str b)] [] (.c (.int .i64 (Lib.compareBytes a.data.toList b.data.toList))) [] :=
  PCs.of_same ⟨_, Tryz.func91, by kernel_rfl, by kernel_rfl⟩ (fun F φ w cs hp => args2 (fun c h => h.str_inv) (fun c h => h.str_inv) hp) (fun F φ w => RS.mki _ _) (baCompare_calls a b)
set_option maxRecDepth 100000 in
set_option maxHeartbeats 4000000 in
theorem sIndexByte_pc (s : ByteArray) (c : Int) : PCp 146 [.c (.str s), .c (.int .u8 c)] [] (.c (.int .i64 (Lib.indexByte s.data.toList c.toNat.toUInt8))) [] := by
  refine fn_sound (mt := mts) tab_fits tab_mixed Tryz.func146 (by rfl) (by kernel_rfl) (by kernel_rfl) Tryz.results146 (Nat.le_of_ble_eq_true (by kernel_rfl)) ?_
  conv => whnf
  repeat' (first
    | (refine Split.mk (fun h => ?_) (fun h => ?_) <;> (try simp only [decide_eq_true_eq, decide_eq_false_iff_not, Bool.not_eq_true', Bool.not_eq_false', beq_iff_eq, beq_eq_false_iff_ne] at h) <;> (first | (exfalso; first | omega | exact h trivial) | (conv => whnf)))
    | (refine CondG.mk (fun h => ?_) (fun h => ?_) <;> (try simp only [decide_eq_true_eq, decide_eq_false_iff_not, Bool.not_eq_true', Bool.not_eq_false', beq_iff_eq, beq_eq_false_iff_ne] at h) <;> (first | (exfalso; first | omega | exact h trivial) | (conv => whnf)))
    | (refine CallX.mk _ _ (by first | exact slIndexByte_pc _ _) ?_; conv => whnf)
    | (refine CallG.mk _ _ (by first | exact slIndexByte_pc _ _) ?_; conv => whnf)
    | (refine Ask.mk (by first | omega | (unfold roomOK; simp [cutRows]; done) | (unfold roomOK; simp [cutRows]; omega)) ?_; conv => whnf)
    | (refine SliceG.fr ?_; conv => whnf)
    | fail)
  exact fini rfl
def cmpS (a b : ByteArray) : Int := Lib.compareBytes a.data.toList b.data.toList
set_option maxRecDepth 100000 in
set_option maxHeartbeats 4000000 in
theorem sCompare_pc (a b : ByteArray) : PCp 52 [.c (.str a), .c (.str b)] [] (.c (.int .i64 (cmpS a b))) [] := by
  refine fn_sound (mt := mts) tab_fits tab_mixed Tryz.func52 (by rfl) (by kernel_rfl) (by kernel_rfl) Tryz.results52 (Nat.le_of_ble_eq_true (by kernel_rfl)) ?_
  conv => whnf
  repeat' (first
    | (refine Split.mk (fun h => ?_) (fun h => ?_) <;> (try simp only [decide_eq_true_eq, decide_eq_false_iff_not, Bool.not_eq_true', Bool.not_eq_false', beq_iff_eq, beq_eq_false_iff_ne] at h) <;> (first | (exfalso; first | omega | exact h trivial) | (conv => whnf)))
    | (refine CondG.mk (fun h => ?_) (fun h => ?_) <;> (try simp only [decide_eq_true_eq, decide_eq_false_iff_not, Bool.not_eq_true', Bool.not_eq_false', beq_iff_eq, beq_eq_false_iff_ne] at h) <;> (first | (exfalso; first | omega | exact h trivial) | (conv => whnf)))
    | (refine CallX.mk _ _ (by first | exact baCompare_pc _ _) ?_; conv => whnf)
    | (refine CallG.mk _ _ (by first | exact baCompare_pc _ _) ?_; conv => whnf)
    | (refine Ask.mk (by first | omega | (unfold roomOK; simp [cutRows]; done) | (unfold roomOK; simp [cutRows]; omega)) ?_; conv => whnf)
    | (refine SliceG.fr ?_; conv => whnf)
    | fail)
  exact fini rfl

def onlyB (s t : ByteArray) : Bool := decide (∀ i, i < s.size → 0 ≤ Lib.indexByte t.data.toList (byteAt s i).toNat.toUInt8)
set_option maxRecDepth 100000 in
set_option maxHeartbeats 4000000 in
theorem only_pc (s t : ByteArray) (hs : s.size ≤ 1000000) : PCp 105 [.c (.str s), .c (.str t)] [] (.c (.bool (onlyB s t))) [] := by
  refine fn_sound (mt := mts) tab_fits tab_mixed Tryz.func105 (by rfl) (by kernel_rfl) (by kernel_rfl) Tryz.results105 (Nat.le_of_ble_eq_true (by kernel_rfl)) ?_
  conv => whnf
  refine loop_count (s.size) [] [0, 1, 7, 8] (fun k (_ : Unit) => ⟨[(0, .c (.str s)), (1, .c (.str t)), (7, .c (.int .i64 s.size)), (8, .c (.int .i64 k))], [], 0⟩) (fun k (_ : Unit) => ∀ i, i < k → 0 ≤ Lib.indexByte t.data.toList (byteAt s i).toNat.toUInt8) (()) ?_ ?_ ?_
  · conv => whnf
    exact ⟨rfl, by simp⟩
  · intro k _ hk hi
    conv => whnf
    repeat' (first
      | (refine Split.mk (fun h => ?_) (fun h => ?_) <;> (try simp only [decide_eq_true_eq, decide_eq_false_iff_not, Bool.not_eq_true', Bool.not_eq_false', beq_iff_eq, beq_eq_false_iff_ne] at h) <;> (first | (exfalso; first | omega | exact h trivial) | (conv => whnf)))
      | (refine CondG.mk (fun h => ?_) (fun h => ?_) <;> (try simp only [decide_eq_true_eq, decide_eq_false_iff_not, Bool.not_eq_true', Bool.not_eq_false', beq_iff_eq, beq_eq_false_iff_ne] at h) <;> (first | (exfalso; first | omega | exact h trivial) | (conv => whnf)))
      | (refine CallX.mk _ _ (by first | exact sIndexByte_pc _ _) ?_; conv => whnf)
      | (refine CallG.mk _ _ (by first | exact sIndexByte_pc _ _) ?_; conv => whnf)
      | (refine Ask.mk (by first | omega | (unfold roomOK; simp [cutRows]; done) | (unfold roomOK; simp [cutRows]; omega)) ?_; conv => whnf)
      | (refine SliceG.fr ?_; conv => whnf)
      | fail)
    · exact finb (by rw [eq_comm, onlyB, decide_eq_false_iff_not]; intro hh; have h5 := hh k hk; exact absurd h (Int.not_lt.2 h5))
    · refine count_next () hk (by rw [wrap_succ hk (by omega)]; rfl) ?_
      exact all_succ hi (Int.not_lt.1 h)
  · intro _ hi
    conv => whnf
    repeat' (first
      | (refine Split.mk (fun h => ?_) (fun h => ?_) <;> (try simp only [decide_eq_true_eq, decide_eq_false_iff_not, Bool.not_eq_true', Bool.not_eq_false', beq_iff_eq, beq_eq_false_iff_ne] at h) <;> (first | (exfalso; first | omega | exact h trivial) | (conv => whnf)))
      | (refine CondG.mk (fun h => ?_) (fun h => ?_) <;> (try simp only [decide_eq_true_eq, decide_eq_false_iff_not, Bool.not_eq_true', Bool.not_eq_false', beq_iff_eq, beq_eq_false_iff_ne] at h) <;> (first | (exfalso; first | omega | exact h trivial) | (conv => whnf)))
      | (refine Ask.mk (by first | omega | (unfold roomOK; simp [cutRows]; done) | (unfold roomOK; simp [cutRows]; omega)) ?_; conv => whnf)
      | (refine SliceG.fr ?_; conv => whnf)
      | fail)
    exact finb (by rw [eq_comm, onlyB, decide_eq_true_iff]; exact hi)
/-- a list that is given back, or nil -/
theorem fini' {m : Nat} {k : IntKind} {a b : Int} {os os' : List Ob} (h : a = b) (ho : os = os') : FinR m (.c (.int k b)) os' (.c (.int k a)) os := .mk ⟨by rw [h], ho⟩
theorem finl {m : Nat} {sz : Nat} {rows rows' : List (List V)} {os t : List Ob} {l : Nat} (ho : (os ++ t)[l]? = some (.frow sz rows)) (h : rows = rows') (hm : m ≤ os.length) : FinR m (.c (.lst sz rows')) os (.c (.row l)) (os ++ t) := by
  subst h; exact .weak t (.fro l sz rows ho) rfl hm
end Go.Proofs.YtmdcgimpgoacdaaGreatDoor

/- The generator's stream, by the abstract walk. -/
namespace Go.Proofs.YtmdcgimpgoacdaaGreatDoor
set_option linter.unusedVariables false
set_option linter.unusedSimpArgs false
open Abs

theorem mapAt {α : Type} {enc : α → List V} {l : List α} {k : Nat} (d : α) (h : k < l.length) : 0 ≤ (k : Int) ∧ (l.map enc)[(k : Int).toNat]? = some (enc (l.getD k d)) := ⟨by omega, by simp [h]⟩
theorem mapAtW {α : Type} {enc : α → List V} {l : List α} {e : Int} {j : Nat} (d : α) (he : e = (j : Int)) (h : j < l.length) : 0 ≤ e ∧ (l.map enc)[e.toNat]? = some (enc (l.getD j d)) := by subst he; exact mapAt d h
def encI (n : Int) : List V := [.int .i64 n]
def encS (s : ByteArray) : List V := [.str s]
def firstErr : List Int → Int
  | [] => 0
  | x :: r => if x = 0 then firstErr r else x
theorem firstErr_drop (xs : List Int) (k : Nat) (h : k < xs.length) : firstErr (xs.drop k) = if xs.getD k 0 = 0 then firstErr (xs.drop (k + 1)) else xs.getD k 0 := by
  rw [List.drop_eq_getElem_cons h]; simp [firstErr, h]


def belowV (x n : Int) : Int := if n < 1 then 0 else if x.tmod n < 0 then x.tmod n + n else x.tmod n
theorem belowV_lt (x n : Int) (h : 1 ≤ n) : 0 ≤ belowV x n ∧ belowV x n < n := by
  have h1 := Int.tmod_lt_of_pos x (show 0 < n by omega)
  have h2 : -n < x.tmod n := by
    have := Int.lt_tmod_of_pos x (show 0 < n by omega)
    omega
  unfold belowV
  rw [if_neg (by omega)]
  split <;> omega

set_option maxRecDepth 100000 in
set_option maxHeartbeats 4000000 in
theorem below_pc (x n : Int) (hn : n ≤ 4611686018427387904) : PCp 83 [.c (.int .i64 x), .c (.int .i64 n)] [] (.c (.int .i64 (belowV x n))) [] := by
  refine fn_sound (mt := mts) tab_fits tab_mixed Tryz.func83 (by rfl) (by kernel_rfl) (by kernel_rfl) Tryz.results83 (Nat.le_of_ble_eq_true (by kernel_rfl)) ?_
  conv => whnf
  constructor
  · intro h
    conv => whnf
    have h := of_decide_eq_true h
    exact .mk ⟨by simp [oneOf, belowV, h], rfl⟩
  · intro h
    have h := of_decide_eq_false h
    conv => whnf
    refine ⟨by omega, ?_⟩
    conv => whnf
    have h1 := Int.tmod_lt_of_pos x (show 0 < n by omega)
    have h2 : -n < x.tmod n := Int.lt_tmod_of_pos x (show 0 < n by omega)
    constructor
    · intro h3
      have h3 := of_decide_eq_true h3
      conv => whnf
      refine .mk ⟨?_, rfl⟩
      show S.c _ = _
      rw [IntWalk.i64_in _ ⟨by omega, by omega⟩, belowV, if_neg h, if_pos h3]
    · intro h3
      have h3 := of_decide_eq_false h3
      conv => whnf
      refine .mk ⟨?_, rfl⟩
      show S.c _ = _
      rw [belowV, if_neg h, if_neg h3]

def nextV (L : List Int) (p n : Int) : Int :=
  if L.length = 0 then belowV (IntKind.i64.wrap ((p + 1) * 7919)) n
  else belowV (IntKind.i64.wrap (belowV (L.getD (p.tmod L.length).toNat 0) 1073741824 + IntKind.i64.wrap (IntKind.i64.wrap (p.tdiv L.length) * IntKind.i64.wrap (7919 + p.tmod L.length)))) n
theorem nextV_lt (L : List Int) (p n : Int) (h : 1 ≤ n) : 0 ≤ nextV L p n ∧ nextV L p n < n := by
  unfold nextV
  split <;> exact belowV_lt _ _ h

set_option maxRecDepth 100000 in
theorem next_pc (L : List Int) (p n : Int) (hp : 0 ≤ p) (hp2 : p ≤ 1000000000) (hL : L.length ≤ 9223372036854775807) (hn : n ≤ 4611686018427387904) :
    PCp 39 [.c (.ptr 0 0), .c (.int .i64 n)] [.box [.lst 1 (L.map encI), .int .i64 p]] (.c (.int .i64 (nextV L p n))) [.box [.lst 1 (L.map encI), .int .i64 (p + 1)]] := by
  have hw : IntKind.i64.wrap (p + 1) = p + 1 := IntWalk.i64_in _ ⟨by omega, by omega⟩
  have hw2 : IntKind.i64.wrap (p + 1 - 1) = p := by rw [IntWalk.i64_in _ ⟨by omega, by omega⟩]; omega
  refine fn_sound (mt := mts) tab_fits tab_mixed Tryz.func39 (by rfl) (by kernel_rfl) (by kernel_rfl) Tryz.results39 (Nat.le_of_ble_eq_true (by kernel_rfl)) ?_
  conv => whnf
  constructor
  · intro h
    have h0 : L.length = 0 := by simpa using h
    conv => whnf
    refine .mk _ _ (below_pc _ _ hn) ?_
    conv => whnf
    refine .mk ⟨?_, ?_⟩
    · show S.c _ = _
      rw [nextV, if_pos h0, hw]
    · show [Ob.box _] = _
      rw [hw]
  · intro h
    have h0 : ¬ L.length = 0 := by
      have := of_decide_eq_false h
      intro e
      simp [e] at this
    conv => whnf
    have hlen : (((L.map encI).length : Nat) : Int) = (L.length : Int) := by simp
    have hne : ¬ (((L.map encI).length : Nat) : Int) = 0 := by rw [hlen]; omega
    refine ⟨hne, ?_⟩
    conv => whnf
    refine ⟨hne, ?_⟩
    conv => whnf
    have hm : IntKind.i64.wrap (IntKind.i64.wrap (p + 1) - 1) = p := by rw [hw, hw2]
    have hi0 : 0 ≤ p.tmod L.length := Int.tmod_nonneg _ hp
    have hi1 : p.tmod L.length < L.length := Int.tmod_lt_of_pos _ (by omega)
    refine ⟨_, mapAtW (j := (p.tmod L.length).toNat) 0 (by rw [hm, hlen]; omega) (by omega), ?_⟩
    conv => whnf
    refine .mk _ _ (below_pc _ _ (by omega)) ?_
    conv => whnf
    refine .mk _ _ (below_pc _ _ hn) ?_
    conv => whnf
    refine .mk ⟨?_, ?_⟩
    · show S.c _ = _
      rw [nextV, if_neg h0, hm, hlen]
    · show [Ob.box _] = _
      rw [hw]

/-- the stream as an object -/
abbrev stO (L : List Int) (p : Int) : Ob := .box [.lst 1 (L.map encI), .int .i64 p]
def pickV (L : List Int) (p : Int) (l : List Int) : Int := l.getD (nextV L p l.length).toNat 0

set_option maxRecDepth 100000 in
theorem pick_pc (L : List Int) (p : Int) (l : List Int) (hp : 0 ≤ p) (hp2 : p ≤ 1000000000) (hL : L.length ≤ 9223372036854775807) (h1 : 1 ≤ l.length) (h2 : l.length ≤ 1000000000) :
    PCp 36 [.c (.ptr 0 0), .c (.lst 1 (l.map encI))] [stO L p] (.c (.int .i64 (pickV L p l))) [stO L (p + 1)] := by
  have hlen : (((l.map encI).length : Nat) : Int) = (l.length : Int) := by simp
  have hb := nextV_lt L p l.length (by omega)
  refine fn_sound (mt := mts) tab_fits tab_mixed Tryz.func36 (by rfl) (by kernel_rfl) (by kernel_rfl) Tryz.results36 (Nat.le_of_ble_eq_true (by kernel_rfl)) ?_
  conv => whnf
  refine .mk _ _ (next_pc L p _ hp hp2 hL (by rw [hlen]; omega)) ?_
  conv => whnf
  rw [hlen]
  refine ⟨_, mapAtW (j := (nextV L p l.length).toNat) 0 (by omega) (by omega), ?_⟩
  conv => whnf
  exact .mk ⟨rfl, rfl⟩

def rangeV (L : List Int) (p a b : Int) : Int := if b < a then a else a + nextV L p (b - a + 1)
theorem rangeV_in (L : List Int) (p a b : Int) (h : a ≤ b) : a ≤ rangeV L p a b ∧ rangeV L p a b ≤ b := by
  have := nextV_lt L p (b - a + 1) (by omega)
  unfold rangeV
  rw [if_neg (by omega)]
  omega
def small (x : Int) : Prop := -1000000000000 ≤ x ∧ x ≤ 1000000000000

set_option maxRecDepth 100000 in
theorem range_pc (L : List Int) (p a b : Int) (hp : 0 ≤ p) (hp2 : p ≤ 1000000000) (hL : L.length ≤ 9223372036854775807) (hab : a ≤ b) (ha : small a) (hb : small b) :
    PCp 6 [.c (.ptr 0 0), .c (.int .i64 a), .c (.int .i64 b)] [stO L p] (.c (.int .i64 (rangeV L p a b))) [stO L (p + 1)] := by
  have e1 : IntKind.i64.wrap (b - a) = b - a := IntWalk.i64_in _ (by unfold small at *; omega)
  have e2 : IntKind.i64.wrap (b - a + 1) = b - a + 1 := IntWalk.i64_in _ (by unfold small at *; omega)
  have hn := nextV_lt L p (b - a + 1) (by omega)
  refine fn_sound (mt := mts) tab_fits tab_mixed Tryz.func6 (by rfl) (by kernel_rfl) (by kernel_rfl) Tryz.results6 (Nat.le_of_ble_eq_true (by kernel_rfl)) ?_
  conv => whnf
  constructor
  · intro h
    have h := of_decide_eq_true h
    omega
  · intro h
    conv => whnf
    rw [e1, e2]
    refine .mk _ _ (next_pc L p _ hp hp2 hL (by unfold small at *; omega)) ?_
    conv => whnf
    refine .mk ⟨?_, rfl⟩
    show S.c _ = _
    rw [IntWalk.i64_in _ (by unfold small at *; omega), rangeV, if_neg (by omega)]

def someV (L : List Int) (p : Int) (l : List ByteArray) : ByteArray := l.getD (nextV L p l.length).toNat default
theorem someV_in (L : List Int) (p : Int) (l : List ByteArray) (h : 1 ≤ l.length) : someV L p l ∈ l := by
  have := nextV_lt L p l.length (by omega)
  have h2 : (nextV L p l.length).toNat < l.length := by omega
  unfold someV
  have : l.getD (nextV L p l.length).toNat default = l[(nextV L p l.length).toNat] := by simp [h2]
  rw [this]
  exact List.getElem_mem h2

set_option maxRecDepth 100000 in
theorem some_pc (L : List Int) (p : Int) (l : List ByteArray) (hp : 0 ≤ p) (hp2 : p ≤ 1000000000) (hL : L.length ≤ 9223372036854775807) (h1 : 1 ≤ l.length) (h2 : l.length ≤ 1000000000) :
    PCp 37 [.c (.ptr 0 0), .c (.lst 1 (l.map encS))] [stO L p] (.c (.str (someV L p l))) [stO L (p + 1)] := by
  have hlen : (((l.map encS).length : Nat) : Int) = (l.length : Int) := by simp
  have hb := nextV_lt L p l.length (by omega)
  refine fn_sound (mt := mts) tab_fits tab_mixed Tryz.func37 (by rfl) (by kernel_rfl) (by kernel_rfl) Tryz.results37 (Nat.le_of_ble_eq_true (by kernel_rfl)) ?_
  conv => whnf
  refine .mk _ _ (next_pc L p _ hp hp2 hL (by rw [hlen]; omega)) ?_
  conv => whnf
  rw [hlen]
  refine ⟨_, mapAtW (j := (nextV L p l.length).toNat) default (by omega) (by omega), ?_⟩
  conv => whnf
  exact .mk ⟨rfl, rfl⟩

set_option maxRecDepth 100000 in
set_option maxHeartbeats 4000000 in
theorem flip_pc (L : List Int) (p n : Int) (hp : 0 ≤ p) (hp2 : p ≤ 1000000000) (hL : L.length ≤ 9223372036854775807) (hn : n ≤ 1000000000) :
    PCp 38 [.c (.ptr 0 0), .c (.int .i64 n)] [stO L p] (.c (.bool (nextV L p n == 0))) [stO L (p + 1)] := by
  refine fn_sound (mt := mts) tab_fits tab_mixed Tryz.func38 (by rfl) (by kernel_rfl) (by kernel_rfl) Tryz.results38 (Nat.le_of_ble_eq_true (by kernel_rfl)) ?_
  conv => whnf
  refine .mk _ _ (next_pc L p _ hp hp2 hL (by omega)) ?_
  conv => whnf
  exact .mk ⟨rfl, rfl⟩


/-- a stream that goes on -/
def StOk (L : List Int) (p : Int) : Prop := L.length ≤ 9223372036854775807 ∧ 0 ≤ p ∧ p ≤ 900000000
theorem next_ok {L : List Int} {p : Int} (h : StOk L p) (n : Int) (hn : n ≤ 1000000000) : PCp 39 [.c (.ptr 0 0), .c (.int .i64 n)] [stO L p] (.c (.int .i64 (nextV L p n))) [stO L (p + 1)] :=
  next_pc L p n h.2.1 (by have := h.2.2; omega) h.1 (by omega)
theorem flip_ok {L : List Int} {p : Int} (h : StOk L p) (n : Int) (hn : n ≤ 1000000000) : PCp 38 [.c (.ptr 0 0), .c (.int .i64 n)] [stO L p] (.c (.bool (nextV L p n == 0))) [stO L (p + 1)] :=
  flip_pc L p n h.2.1 (by have := h.2.2; omega) h.1 hn
theorem pick_ok {L : List Int} {p : Int} (h : StOk L p) (l : List Int) (h1 : 1 ≤ l.length) (h2 : l.length ≤ 1000000000) : PCp 36 [.c (.ptr 0 0), .c (.lst 1 (l.map encI))] [stO L p] (.c (.int .i64 (pickV L p l))) [stO L (p + 1)] :=
  pick_pc L p l h.2.1 (by have := h.2.2; omega) h.1 h1 h2
theorem some_ok {L : List Int} {p : Int} (h : StOk L p) (l : List ByteArray) (h1 : 1 ≤ l.length) (h2 : l.length ≤ 1000000000) : PCp 37 [.c (.ptr 0 0), .c (.lst 1 (l.map encS))] [stO L p] (.c (.str (someV L p l))) [stO L (p + 1)] :=
  some_pc L p l h.2.1 (by have := h.2.2; omega) h.1 h1 h2
theorem range_ok {L : List Int} {p : Int} (h : StOk L p) (a b : Int) (hab : a ≤ b) (ha : small a) (hb : small b) : PCp 6 [.c (.ptr 0 0), .c (.int .i64 a), .c (.int .i64 b)] [stO L p] (.c (.int .i64 (rangeV L p a b))) [stO L (p + 1)] :=
  range_pc L p a b h.2.1 (by have := h.2.2; omega) h.1 hab ha hb
end Go.Proofs.YtmdcgimpgoacdaaGreatDoor

/- How a law's contract meets the row. -/
namespace Go.Proofs.YtmdcgimpgoacdaaGreatDoor
set_option linter.unusedVariables false
set_option linter.unusedSimpArgs false
open Go.ChangeShapes Go.WideShapes Go.ChangeAt Go.RowKit
open Abs

theorem walk_of_pc' {f : Nat} (H : ∀ L : List Int, L.length ≤ 9223372036854775807 → PCp f [.c (.lst 1 (L.map encI))] [] (.c (.bool true)) [])
    (a : Option Addr) (len cap : Nat) (zs : List Int) (w : World) (hg : ∀ g ∈ globs, g.1 < w.heap.size ∧ ∃ t f, w.heap[g.1]? = some (.cells g.2 t f)) (h : IsRow .i64 w a len cap zs) :
    Calls Tryz.prog f #[.slice a len cap] w fun e w' => e = .returned (.bool true) ∧ Below w.heap.size w w' := by
  have key : ∀ L : List Int, L.length ≤ 9223372036854775807 → RT (fun b => b < w.heap.size) w (.slice a len cap) (.lst 1 (L.map encI)) →
      Calls Tryz.prog f #[.slice a len cap] w fun e w' => e = .returned (.bool true) ∧ Below w.heap.size w w' := by
    intro L hL hrt
    have hc := (H L hL).2 (fun b => b < w.heap.size) (fun _ => none) w #[.slice a len cap] (.cons (.c (.tree hrt)) .nil)
      ⟨fun l o h => by simp [nth] at h, fun l l' o o' b h => by simp [nth] at h, fun l o b h => by simp [nth] at h, fun b h => h, fun l c h => (by simp at h), hg⟩
      (fun l c h => by simp at h)
    refine hc.mono ?_
    rintro e w' ⟨c, F', φ', r0, os0, ⟨e1, e2⟩, rfl, hr, hn⟩
    subst e1 e2
    refine ⟨?_, hn.os, hn.tape, hn.output, hn.size, ?_⟩
    · cases hr with | c hv => cases hv with | tree ht => cases ht; rfl
    · intro k hk
      by_cases he : w'.heap[k]? = w.heap[k]?
      · exact he
      · obtain ⟨l, o, h1, _⟩ := hn.keep k hk he
        simp [nth] at h1
  rcases h with ⟨rfl, rfl, rfl, rfl⟩ | ⟨x, rfl, hl, hm, hz, hcell, -⟩
  · exact key [] (by simp) (.lst0 none 0 1 (Nat.zero_le _))
  · have hm' : cap ≤ 9223372036854775807 := hm
    by_cases h0 : len = 0
    · subst h0
      exact key [] (by simp) (.lst0 (some x) cap 1 hm)
    · obtain ⟨h1, h2⟩ := spot_none (hcell 0 (by omega))
      have h2 : x.block < w.heap.size := h2
      obtain ⟨b, o, sp⟩ := x
      have h1 : sp = none := h1
      subst h1
      refine key (zs.take len) (by simp; omega) (.lst b o len cap 1 _ (fun i _ => .int .i64 (zs.getD i 0)) h2 (by simp; omega) hl hm ?_ ?_ ?_)
      · intro r hr
        obtain ⟨y, _, rfl⟩ := List.mem_map.1 hr
        rfl
      · intro i j hi hj
        have hj0 : j = 0 := by omega
        subst hj0
        have h6 : (⟨b, o, none⟩ : Addr).add i = ⟨b, o + i, none⟩ := by unfold Addr.add; split <;> simp_all
        have := hcell i (by omega)
        rw [h6] at this
        simpa using this
      · intro i r j v hr hv
        have hi : i < (zs.take len).length := by
          have := (List.getElem?_eq_some_iff.1 hr).1
          simpa using this
        have hi2 : i < zs.length := by simp at hi; omega
        rw [List.getElem?_map, List.getElem?_eq_getElem hi] at hr
        simp only [Option.map_some, Option.some.injEq] at hr
        subst hr
        cases j with
        | zero =>
          simp only [encI, List.getElem?_cons_zero, Option.some.injEq] at hv
          subst hv
          simp only [List.getElem_take]
          rw [show zs.getD i 0 = zs[i] by simp [hi2]]
          exact .int _ _
        | succ j => simp [encI] at hv
theorem walk_of_pc {f : Nat} (H : ∀ L : List Int, L.length ≤ 9223372036854775807 → PCp f [.c (.lst 1 (L.map encI))] [] (.c (.bool true)) [])
    (hg : globs = []) (a : Option Addr) (len cap : Nat) (zs : List Int) (w : World) (h : IsRow .i64 w a len cap zs) :
    Calls Tryz.prog f #[.slice a len cap] w fun e w' => e = .returned (.bool true) ∧ Below w.heap.size w w' :=
  walk_of_pc' H a len cap zs w (fun g h => by rw [hg] at h; cases h) h
end Go.Proofs.YtmdcgimpgoacdaaGreatDoor

/- Drums, sections, rules and plans are made, by the abstract walk. -/
namespace Go.Proofs.YtmdcgimpgoacdaaGreatDoor
set_option linter.unusedVariables false
set_option linter.unusedSimpArgs false
open Abs

theorem enc_size (n : Int) : (Utf8.encode n).size ≤ 4 := by
  unfold Utf8.encode
  simp only
  repeat' split
  all_goals exact Nat.le_of_ble_eq_true rfl
theorem lab_ok (pre : ByteArray) (n : Int) (h : pre.size ≤ 100) : pre.size + (Utf8.encode n).size ≤ 9223372036854775807 := by have := enc_size n; omega
def iterN {A : Type} (f : Nat → A → A) : Nat → A → A
  | 0, a => a
  | n + 1, a => f n (iterN f n a)
structure Pc where
  key : ByteArray
  kind : ByteArray
  long : Int
def encPc (x : Pc) : List V := [.str x.key, .str x.kind, .int .i64 x.long]
def lab (pre : ByteArray) (k : Int) : ByteArray := pre ++ Utf8.encode (IntKind.i32.wrap (IntKind.i64.wrap (97 + k)))
def bT : ByteArray := ⟨#[116]⟩
def bU : ByteArray := ⟨#[117]⟩
def pcStep (L : List Int) (pre : ByteArray) (longs : List Int) (i : Nat) (a : List Pc × Int) : List Pc × Int :=
  (a.1 ++ [⟨lab pre i, someV L a.2 [bT, bT, bU], pickV L (a.2 + 1) longs⟩], a.2 + 1 + 1)
def pcIter (L : List Int) (p : Int) (pre : ByteArray) (longs : List Int) (n : Nat) : List Pc × Int := iterN (pcStep L pre longs) n ([], p)
theorem pcIter_snd (L : List Int) (p : Int) (pre : ByteArray) (longs : List Int) (n : Nat) : (pcIter L p pre longs n).2 = p + 2 * n := by
  induction n with
  | zero => simp [pcIter, iterN]
  | succ n ih => simp only [pcIter, iterN, pcStep] at ih ⊢; rw [ih]; omega
theorem pcIter_len (L : List Int) (p : Int) (pre : ByteArray) (longs : List Int) (n : Nat) : (pcIter L p pre longs n).1.length = n := by
  induction n with
  | zero => simp [pcIter, iterN]
  | succ n ih => simp only [pcIter, iterN, pcStep] at ih ⊢; simp [ih]

def dLongs : List Int := [30, 60, 61, 100, 101, 150]
instance : Inhabited Pc := ⟨⟨default, default, 0⟩⟩
def dSpoil (L : List Int) (q : Int) (i : Nat) (l : List Pc) : List Pc :=
  l.set i ⟨someV L q [(l.getD i default).key, ⟨#[]⟩, ⟨#[100, 97]⟩], someV L (q + 1) [(l.getD i default).kind, ⟨#[65]⟩], pickV L (q + 1 + 1) [(l.getD i default).long, 0, 200000, 200001]⟩
def drumsV (L : List Int) (p most : Int) : List Pc × Int :=
  (fun a : List Pc × Int => if 0 < a.1.length then (if nextV L a.2 12 == 0 then (dSpoil L (a.2 + 1 + 1) (nextV L (a.2 + 1) a.1.length).toNat a.1, a.2 + 1 + 1 + 1 + 1 + 1) else (a.1, a.2 + 1)) else a) (pcIter L (p + 1) ⟨#[100]⟩ dLongs (rangeV L p 0 most).toNat)
def sLongs : List Int := [10, 29, 30, 48, 50, 60]
def sSpoil (L : List Int) (q : Int) (i : Nat) (l : List Pc) : List Pc :=
  l.set i ⟨someV L q [(l.getD i default).key, ⟨#[]⟩, ⟨#[115, 97]⟩], someV L (q + 1) [(l.getD i default).kind, ⟨#[65]⟩], pickV L (q + 1 + 1) [(l.getD i default).long, 0, 200001]⟩
def sectsV (L : List Int) (p most : Int) : List Pc × Int :=
  (fun a : List Pc × Int => if 0 < a.1.length then (if nextV L a.2 12 == 0 then (sSpoil L (a.2 + 1 + 1) (nextV L (a.2 + 1) a.1.length).toNat a.1, a.2 + 1 + 1 + 1 + 1 + 1) else (a.1, a.2 + 1)) else a) (pcIter L (p + 1) ⟨#[115]⟩ sLongs (rangeV L p 0 most).toNat)
end Go.Proofs.YtmdcgimpgoacdaaGreatDoor

/- Checks of drums, sections and rules, by the abstract walk. -/
namespace Go.Proofs.YtmdcgimpgoacdaaGreatDoor
set_option linter.unusedVariables false
set_option linter.unusedSimpArgs false
open Abs

def smalls : ByteArray := ⟨#[97, 98, 99, 100, 101, 102, 103, 104, 105, 106, 107, 108, 109, 110, 111, 112, 113, 114, 115, 116, 117, 118, 119, 120, 121, 122]⟩
def keyChars : ByteArray := ⟨#[97, 98, 99, 100, 101, 102, 103, 104, 105, 106, 107, 108, 109, 110, 111, 112, 113, 114, 115, 116, 117, 118, 119, 120, 121, 122, 48, 49, 50, 51, 52, 53, 54, 55, 56, 57, 45, 95]⟩
theorem smalls_ix : ∀ c : Fin 256, decide (0 ≤ Lib.indexByte smalls.data.toList ((c.val : Int).toNat.toUInt8)) = decide (97 ≤ (c.val : Int) ∧ (c.val : Int) ≤ 122) := by decide +kernel
theorem chars_ix : ∀ c : Fin 256, decide (0 ≤ Lib.indexByte keyChars.data.toList ((c.val : Int).toNat.toUInt8)) = isKeyC (c.val : Int) := by decide +kernel
theorem byteAt_lt (s : ByteArray) (i : Nat) : ∃ c : Fin 256, byteAt s i = (c.val : Int) := ⟨⟨(s.data.getD i 0).toNat, UInt8.toNat_lt _⟩, rfl⟩
theorem extract1 (s : ByteArray) (h : 1 ≤ s.size) : (s.extract 0 1).size = 1 ∧ byteAt (s.extract 0 1) 0 = byteAt s 0 := by
  have h1 : (s.extract 0 1).size = 1 := by rw [ByteArray.size_extract]; omega
  refine ⟨h1, ?_⟩
  unfold byteAt
  have h2 : 0 < (s.extract 0 1).data.size := by have : (s.extract 0 1).data.size = 1 := h1; omega
  have h3 : 0 < s.data.size := h
  simp only [Array.getD, h2, h3, dif_pos]
  congr 1
  have : (s.extract 0 1).data = s.data.extract 0 1 := by simp
  simp [this]
theorem keyR_eq (s : ByteArray) (h : 1 ≤ s.size ∧ s.size ≤ 40) : (onlyB (s.extract 0 1) smalls && onlyB s keyChars) = keyB s := by
  obtain ⟨e1, e2⟩ := extract1 s h.1
  rw [Bool.eq_iff_iff, Bool.and_eq_true]
  simp only [onlyB, keyB, decide_eq_true_eq, e1]
  have k1 : (∀ i, i < 1 → 0 ≤ Lib.indexByte smalls.data.toList (byteAt (s.extract 0 1) i).toNat.toUInt8) ↔ (97 ≤ byteAt s 0 ∧ byteAt s 0 ≤ 122) := by
    obtain ⟨c, hc⟩ := byteAt_lt s 0
    have := smalls_ix c
    rw [← hc, decide_eq_decide] at this
    rw [← this, ← e2]
    constructor
    · intro hh; exact hh 0 (by omega)
    · intro hh i hi
      have : i = 0 := by omega
      subst this; exact hh
  have k2 : (∀ i, i < s.size → 0 ≤ Lib.indexByte keyChars.data.toList (byteAt s i).toNat.toUInt8) ↔ (∀ i, i < s.size → isKeyC (byteAt s i) = true) := by
    have : ∀ i, 0 ≤ Lib.indexByte keyChars.data.toList (byteAt s i).toNat.toUInt8 ↔ isKeyC (byteAt s i) = true := by
      intro i
      obtain ⟨c, hc⟩ := byteAt_lt s i
      rw [hc, ← chars_ix c, decide_eq_true_eq]
    constructor
    · intro hh i hi; exact (this i).1 (hh i hi)
    · intro hh i hi; exact (this i).2 (hh i hi)
  rw [k1, k2]
  constructor
  · rintro ⟨⟨a, b⟩, c⟩; exact ⟨by omega, by omega, a, b, c⟩
  · rintro ⟨_, _, a, b, c⟩; exact ⟨⟨a, b⟩, c⟩
set_option maxRecDepth 100000 in
set_option maxHeartbeats 4000000 in
theorem rKey_pc (s : ByteArray) : PCp 73 [.c (.str s)] [] (.c (.bool (keyB s))) [] := by
  refine fn_sound (mt := mts) tab_fits tab_mixed Tryz.func73 (by rfl) (by kernel_rfl) (by kernel_rfl) Tryz.results73 (Nat.le_of_ble_eq_true (by kernel_rfl)) ?_
  conv => whnf
  repeat' (first
    | (refine Split.mk (fun h => ?_) (fun h => ?_) <;> (try simp only [decide_eq_true_eq, decide_eq_false_iff_not, Bool.not_eq_true', Bool.not_eq_false', beq_iff_eq, beq_eq_false_iff_ne] at h) <;> (first | (exfalso; first | omega | exact h trivial) | (conv => whnf)))
    | (refine CondG.mk (fun h => ?_) (fun h => ?_) <;> (try simp only [decide_eq_true_eq, decide_eq_false_iff_not, Bool.not_eq_true', Bool.not_eq_false', beq_iff_eq, beq_eq_false_iff_ne] at h) <;> (first | (exfalso; first | omega | exact h trivial) | (conv => whnf)))
    | (refine CallX.mk _ _ (by first | exact rIn_pc _ _ _) ?_; conv => whnf)
    | (refine CallG.mk _ _ (by first | exact rIn_pc _ _ _) ?_; conv => whnf)
    | (refine Ask.mk (by first | omega | (unfold roomOK; simp [cutRows]; done) | (unfold roomOK; simp [cutRows]; omega)) ?_; conv => whnf)
    | (refine SliceG.fr ?_; conv => whnf)
    | fail)
  · have hk : 1 ≤ s.size ∧ s.size ≤ 40 := ⟨by omega, by omega⟩
    refine .mk _ _ (only_pc (s.extract 0 1) smalls (by rw [ByteArray.size_extract]; omega)) ?_
    conv => whnf
    repeat' (first
      | (refine Split.mk (fun h => ?_) (fun h => ?_) <;> (try simp only [decide_eq_true_eq, decide_eq_false_iff_not, Bool.not_eq_true', Bool.not_eq_false', beq_iff_eq, beq_eq_false_iff_ne] at h) <;> (first | (exfalso; first | omega | exact h trivial) | (conv => whnf)))
      | (refine CondG.mk (fun h => ?_) (fun h => ?_) <;> (try simp only [decide_eq_true_eq, decide_eq_false_iff_not, Bool.not_eq_true', Bool.not_eq_false', beq_iff_eq, beq_eq_false_iff_ne] at h) <;> (first | (exfalso; first | omega | exact h trivial) | (conv => whnf)))
      | (refine CallX.mk _ _ (by first | exact only_pc s keyChars (by omega)) ?_; conv => whnf)
      | (refine CallG.mk _ _ (by first | exact only_pc s keyChars (by omega)) ?_; conv => whnf)
      | (refine Ask.mk (by first | omega | (unfold roomOK; simp [cutRows]; done) | (unfold roomOK; simp [cutRows]; omega)) ?_; conv => whnf)
      | (refine SliceG.fr ?_; conv => whnf)
      | fail)
    all_goals exact finb (by rw [← keyR_eq s hk]; simp_all)
  · exact finb (by rw [eq_comm, keyB, decide_eq_false_iff_not]; intro hh; have h1 := hh.1; have h2 := hh.2.1; omega)

def leB (a b : ByteArray) : Bool := Op.bytesLess a.toList b.toList || a.toList == b.toList
theorem leB_nil (s : ByteArray) (h : keyB s = true) : leB s ⟨#[]⟩ = false := by
  have h1 : 0 < s.size := by simp only [keyB, decide_eq_true_eq] at h; exact h.1
  unfold leB
  rw [size_nil, ByteArray.toList_eq, ByteArray.toList_eq]
  have h2 : Op.bytesLess s.data.toList [] = false := by cases s.data.toList <;> rfl
  rw [Bool.or_eq_false_iff]
  exact ⟨h2, decide_eq_false (by omega)⟩
def pcErr (first : Bool) (before : ByteArray) (x : Pc) : Int :=
  if !keyB x.key || !keyB x.kind then 5 else if !first && leB x.key before then 7 else if x.long < 1 ∨ 200000 < x.long then 1 else 0
def pcsErr : Bool → ByteArray → List Pc → Int
  | _, _, [] => 0
  | f, b, x :: r => if pcErr f b x = 0 then pcsErr false x.key r else pcErr f b x
def pcFault (l : List Pc) : Int := if 100 < l.length then 2 else pcsErr true ⟨#[]⟩ l
theorem pcsErr_first (b : ByteArray) (l : List Pc) : pcsErr true ⟨#[]⟩ l = pcsErr false ⟨#[]⟩ l := by
  cases l with
  | nil => rfl
  | cons x r =>
    have : pcErr true ⟨#[]⟩ x = pcErr false ⟨#[]⟩ x := by
      unfold pcErr
      by_cases h : keyB x.key = true
      · simp [leB_nil _ h]
      · simp [h]
    simp only [pcsErr, this]
theorem drop_cons {α : Type} {l : List α} {k : Nat} (h : k < l.length) : l.drop k = l[k] :: l.drop (k + 1) := List.drop_eq_getElem_cons h

def ruleErr (r : Int × Int) : Int := if r.1 < 0 ∨ 1000 < r.1 ∨ r.2 < 0 ∨ 1000 < r.2 then 1 else 0
set_option maxRecDepth 100000 in
set_option maxHeartbeats 4000000 in
theorem first_pc (l : List Int) (hl : l.length ≤ 1000000) : PCp 44 [.c (.lst 1 (l.map encI))] [] (.c (.int .i64 (firstErr l))) [] := by
  have hlm : (l.map encI).length = l.length := List.length_map ..
  refine fn_sound (mt := mts) tab_fits tab_mixed Tryz.func44 (by rfl) (by kernel_rfl) (by kernel_rfl) Tryz.results44 (Nat.le_of_ble_eq_true (by kernel_rfl)) ?_
  conv => whnf
  refine loop_count (l.length) [] [5, 6, 7] (fun k (_ : Unit) => ⟨[(5, .c (.lst 1 (l.map encI))), (6, .c (.int .i64 (l.map encI).length)), (7, .c (.int .i64 k))], [], 0⟩) (fun k (_ : Unit) => firstErr (l.drop k) = firstErr l) (()) ?_ ?_ ?_
  · conv => whnf
    exact ⟨rfl, rfl⟩
  · intro k _ hk hi
    rw [drop_cons hk, firstErr] at hi
    conv => whnf
    repeat' (first
      | (refine Split.mk (fun h => ?_) (fun h => ?_) <;> (try simp only [decide_eq_true_eq, decide_eq_false_iff_not, Bool.not_eq_true', Bool.not_eq_false', beq_iff_eq, beq_eq_false_iff_ne] at h) <;> (first | (exfalso; first | omega | exact h trivial) | (conv => whnf)))
      | (refine CondG.mk (fun h => ?_) (fun h => ?_) <;> (try simp only [decide_eq_true_eq, decide_eq_false_iff_not, Bool.not_eq_true', Bool.not_eq_false', beq_iff_eq, beq_eq_false_iff_ne] at h) <;> (first | (exfalso; first | omega | exact h trivial) | (conv => whnf)))
      | (refine Ask.mk (by first | omega | (unfold roomOK; simp [cutRows]; done) | (unfold roomOK; simp [cutRows]; omega)) ?_; conv => whnf)
      | (refine SliceG.fr ?_; conv => whnf)
      | fail)
    refine idx_map k hk rfl ?_
    conv => whnf
    repeat' (first
      | (refine Split.mk (fun h => ?_) (fun h => ?_) <;> (try simp only [decide_eq_true_eq, decide_eq_false_iff_not, Bool.not_eq_true', Bool.not_eq_false', beq_iff_eq, beq_eq_false_iff_ne] at h) <;> (first | (exfalso; first | omega | exact h trivial) | (conv => whnf)))
      | (refine CondG.mk (fun h => ?_) (fun h => ?_) <;> (try simp only [decide_eq_true_eq, decide_eq_false_iff_not, Bool.not_eq_true', Bool.not_eq_false', beq_iff_eq, beq_eq_false_iff_ne] at h) <;> (first | (exfalso; first | omega | exact h trivial) | (conv => whnf)))
      | (refine Ask.mk (by first | omega | (unfold roomOK; simp [cutRows]; done) | (unfold roomOK; simp [cutRows]; omega)) ?_; conv => whnf)
      | (refine SliceG.fr ?_; conv => whnf)
      | fail)
    · exact fini (by rw [← hi, if_neg (by simpa using h)])
    · refine count_next () hk (by rw [wrap_succ hk (by omega)]; rfl) ?_
      rw [← hi, if_pos (by simpa using h)]
  · intro _ hi
    rw [List.drop_of_length_le (Nat.le_refl _)] at hi
    conv => whnf
    repeat' (first
      | (refine Split.mk (fun h => ?_) (fun h => ?_) <;> (try simp only [decide_eq_true_eq, decide_eq_false_iff_not, Bool.not_eq_true', Bool.not_eq_false', beq_iff_eq, beq_eq_false_iff_ne] at h) <;> (first | (exfalso; first | omega | exact h trivial) | (conv => whnf)))
      | (refine CondG.mk (fun h => ?_) (fun h => ?_) <;> (try simp only [decide_eq_true_eq, decide_eq_false_iff_not, Bool.not_eq_true', Bool.not_eq_false', beq_iff_eq, beq_eq_false_iff_ne] at h) <;> (first | (exfalso; first | omega | exact h trivial) | (conv => whnf)))
      | (refine Ask.mk (by first | omega | (unfold roomOK; simp [cutRows]; done) | (unfold roomOK; simp [cutRows]; omega)) ?_; conv => whnf)
      | (refine SliceG.fr ?_; conv => whnf)
      | fail)
    exact fini (by rw [← hi]; rfl)
set_option maxRecDepth 100000 in
set_option maxHeartbeats 4000000 in
theorem errs_pc (l : List Int) (hl : l.length ≤ 1000000) : PCp 13 [.c (.lst 1 (l.map encI))] [] (.c (.int .i64 (firstErr l))) [] := by
  have hlm : (l.map encI).length = l.length := List.length_map ..
  refine fn_sound (mt := mts) tab_fits tab_mixed Tryz.func13 (by rfl) (by kernel_rfl) (by kernel_rfl) Tryz.results13 (Nat.le_of_ble_eq_true (by kernel_rfl)) ?_
  conv => whnf
  refine loop_count (l.length) [] [5, 6, 7] (fun k (_ : Unit) => ⟨[(5, .c (.lst 1 (l.map encI))), (6, .c (.int .i64 (l.map encI).length)), (7, .c (.int .i64 k))], [], 0⟩) (fun k (_ : Unit) => firstErr (l.drop k) = firstErr l) (()) ?_ ?_ ?_
  · conv => whnf
    exact ⟨rfl, rfl⟩
  · intro k _ hk hi
    rw [drop_cons hk, firstErr] at hi
    conv => whnf
    repeat' (first
      | (refine Split.mk (fun h => ?_) (fun h => ?_) <;> (try simp only [decide_eq_true_eq, decide_eq_false_iff_not, Bool.not_eq_true', Bool.not_eq_false', beq_iff_eq, beq_eq_false_iff_ne] at h) <;> (first | (exfalso; first | omega | exact h trivial) | (conv => whnf)))
      | (refine CondG.mk (fun h => ?_) (fun h => ?_) <;> (try simp only [decide_eq_true_eq, decide_eq_false_iff_not, Bool.not_eq_true', Bool.not_eq_false', beq_iff_eq, beq_eq_false_iff_ne] at h) <;> (first | (exfalso; first | omega | exact h trivial) | (conv => whnf)))
      | (refine Ask.mk (by first | omega | (unfold roomOK; simp [cutRows]; done) | (unfold roomOK; simp [cutRows]; omega)) ?_; conv => whnf)
      | (refine SliceG.fr ?_; conv => whnf)
      | fail)
    refine idx_map k hk rfl ?_
    conv => whnf
    repeat' (first
      | (refine Split.mk (fun h => ?_) (fun h => ?_) <;> (try simp only [decide_eq_true_eq, decide_eq_false_iff_not, Bool.not_eq_true', Bool.not_eq_false', beq_iff_eq, beq_eq_false_iff_ne] at h) <;> (first | (exfalso; first | omega | exact h trivial) | (conv => whnf)))
      | (refine CondG.mk (fun h => ?_) (fun h => ?_) <;> (try simp only [decide_eq_true_eq, decide_eq_false_iff_not, Bool.not_eq_true', Bool.not_eq_false', beq_iff_eq, beq_eq_false_iff_ne] at h) <;> (first | (exfalso; first | omega | exact h trivial) | (conv => whnf)))
      | (refine Ask.mk (by first | omega | (unfold roomOK; simp [cutRows]; done) | (unfold roomOK; simp [cutRows]; omega)) ?_; conv => whnf)
      | (refine SliceG.fr ?_; conv => whnf)
      | fail)
    · exact fini (by rw [← hi, if_neg (by simpa using h)])
    · refine count_next () hk (by rw [wrap_succ hk (by omega)]; rfl) ?_
      rw [← hi, if_pos (by simpa using h)]
  · intro _ hi
    rw [List.drop_of_length_le (Nat.le_refl _)] at hi
    conv => whnf
    repeat' (first
      | (refine Split.mk (fun h => ?_) (fun h => ?_) <;> (try simp only [decide_eq_true_eq, decide_eq_false_iff_not, Bool.not_eq_true', Bool.not_eq_false', beq_iff_eq, beq_eq_false_iff_ne] at h) <;> (first | (exfalso; first | omega | exact h trivial) | (conv => whnf)))
      | (refine CondG.mk (fun h => ?_) (fun h => ?_) <;> (try simp only [decide_eq_true_eq, decide_eq_false_iff_not, Bool.not_eq_true', Bool.not_eq_false', beq_iff_eq, beq_eq_false_iff_ne] at h) <;> (first | (exfalso; first | omega | exact h trivial) | (conv => whnf)))
      | (refine Ask.mk (by first | omega | (unfold roomOK; simp [cutRows]; done) | (unfold roomOK; simp [cutRows]; omega)) ?_; conv => whnf)
      | (refine SliceG.fr ?_; conv => whnf)
      | fail)
    exact fini (by rw [← hi]; rfl)
def allErr (d s : List Pc) (r : Int × Int) : Int := firstErr [pcFault d, pcFault s, ruleErr r]
end Go.Proofs.YtmdcgimpgoacdaaGreatDoor

/- Strings are ordered; lists whose keys rise, and what is looked for in them. -/
namespace Go.Proofs.YtmdcgimpgoacdaaGreatDoor
set_option linter.unusedVariables false
set_option linter.unusedSimpArgs false
open Abs

theorem ltL_irr : ∀ a : List UInt8, Op.bytesLess a a = false
  | [] => rfl
  | a :: r => by
    have ih := ltL_irr r
    simp [Op.bytesLess, ih]
theorem ltL_trans : ∀ {a b c : List UInt8}, Op.bytesLess a b = true → Op.bytesLess b c = true → Op.bytesLess a c = true
  | [], [], c, h, h2 => h2
  | [], b :: s, [], h, h2 => by simp [Op.bytesLess] at h2
  | [], b :: s, c :: t, h, h2 => rfl
  | a :: r, [], c, h, h2 => by simp [Op.bytesLess] at h
  | a :: r, b :: s, [], h, h2 => by simp [Op.bytesLess] at h2
  | a :: r, b :: s, c :: t, h, h2 => by
    simp only [Op.bytesLess, Bool.or_eq_true, decide_eq_true_eq, Bool.and_eq_true, beq_iff_eq] at h h2 ⊢
    rcases h with h | ⟨h, h'⟩
    · rcases h2 with h2 | ⟨h2, h2'⟩
      · exact .inl (UInt8.lt_trans h h2)
      · subst h2; exact .inl h
    · subst h
      rcases h2 with h2 | ⟨h2, h2'⟩
      · exact .inl h2
      · exact .inr ⟨h2, ltL_trans h' h2'⟩
theorem ltL_tri : ∀ a b : List UInt8, Op.bytesLess a b = true ∨ a = b ∨ Op.bytesLess b a = true
  | [], [] => .inr (.inl rfl)
  | [], _ :: _ => .inl rfl
  | _ :: _, [] => .inr (.inr rfl)
  | a :: r, b :: s => by
    have ih := ltL_tri r s
    simp only [Op.bytesLess, Bool.or_eq_true, decide_eq_true_eq, Bool.and_eq_true, beq_iff_eq]
    rcases Nat.lt_trichotomy a.toNat b.toNat with h | h | h
    · exact .inl (.inl (UInt8.lt_iff_toNat_lt.2 h))
    · have e := UInt8.toNat_inj.1 h
      subst e
      rcases ih with h1 | h1 | h1
      · exact .inl (.inr ⟨rfl, h1⟩)
      · exact .inr (.inl (by rw [h1]))
      · exact .inr (.inr (.inr ⟨rfl, h1⟩))
    · exact .inr (.inr (.inl (UInt8.lt_iff_toNat_lt.2 h)))
theorem toList_eq' {a b : ByteArray} : a.toList = b.toList ↔ a = b := by
  rw [ByteArray.toList_eq, ByteArray.toList_eq]
  exact ⟨fun h => ByteArray.ext (Array.toList_inj.1 h), fun h => by rw [h]⟩
theorem beqL (a b : ByteArray) : (a.toList == b.toList) = decide (a = b) := by
  rw [Bool.eq_iff_iff, beq_iff_eq, decide_eq_true_eq, toList_eq']
def ltB (a b : ByteArray) : Bool := Op.bytesLess a.toList b.toList
theorem ltB_irr (a : ByteArray) : ltB a a = false := ltL_irr _
theorem ltB_trans {a b c : ByteArray} (h : ltB a b = true) (h2 : ltB b c = true) : ltB a c = true := ltL_trans h h2
theorem ltB_tri (a b : ByteArray) : ltB a b = true ∨ a = b ∨ ltB b a = true := by
  rcases ltL_tri a.toList b.toList with h | h | h
  · exact .inl h
  · exact .inr (.inl (toList_eq'.1 h))
  · exact .inr (.inr h)
theorem ltB_asym {a b : ByteArray} (h : ltB a b = true) : ltB b a = false := by
  cases h2 : ltB b a with
  | false => rfl
  | true => have := ltB_trans h h2; rw [ltB_irr] at this; cases this
theorem ltB_ne {a b : ByteArray} (h : ltB a b = true) : a ≠ b := by
  intro e; subst e; rw [ltB_irr] at h; cases h
theorem leB_iff {a b : ByteArray} : leB a b = true ↔ ltB a b = true ∨ a = b := by
  unfold leB ltB
  rw [Bool.or_eq_true, beq_iff_eq, toList_eq']
theorem leB_not {a b : ByteArray} : leB a b = false ↔ ltB b a = true := by
  constructor
  · intro h
    have h1 : ¬ (ltB a b = true ∨ a = b) := fun e => by rw [← leB_iff, h] at e; cases e
    rcases ltB_tri a b with h2 | h2 | h2
    · exact absurd (.inl h2) h1
    · exact absurd (.inr h2) h1
    · exact h2
  · intro h
    cases h2 : leB a b with
    | false => rfl
    | true =>
      rcases leB_iff.1 h2 with h3 | h3
      · rw [ltB_asym h3] at h; cases h
      · subst h3; rw [ltB_irr] at h; cases h
theorem cmpL_lt : ∀ a b : List UInt8, Lib.compareBytes a b < 0 ↔ Op.bytesLess a b = true
  | [], [] => by simp [Lib.compareBytes, Op.bytesLess]
  | [], _ :: _ => by simp [Lib.compareBytes, Op.bytesLess]
  | _ :: _, [] => by simp [Lib.compareBytes, Op.bytesLess]
  | a :: r, b :: s => by
    have ih := cmpL_lt r s
    unfold Lib.compareBytes Op.bytesLess
    simp only [Bool.or_eq_true, decide_eq_true_eq, Bool.and_eq_true, beq_iff_eq]
    split
    · rename_i h; simp [h]
    · rename_i h
      split
      · rename_i h2
        simp only [h, false_or]
        constructor
        · intro h3; omega
        · rintro ⟨h3, _⟩; subst h3; exact absurd h2 (UInt8.lt_irrefl _)
      · rename_i h2
        have hab : a = b := by
          rw [UInt8.lt_iff_toNat_lt] at h h2
          exact UInt8.toNat_inj.1 (by omega)
        rw [ih]; simp [h, hab]
theorem cmpL_zero : ∀ a b : List UInt8, Lib.compareBytes a b = 0 ↔ a = b
  | [], [] => by simp [Lib.compareBytes]
  | [], _ :: _ => by simp [Lib.compareBytes]
  | _ :: _, [] => by simp [Lib.compareBytes]
  | x :: xs, y :: ys => by
    have ih := cmpL_zero xs ys
    unfold Lib.compareBytes
    split
    · rename_i h
      constructor
      · intro e; cases e
      · intro e; cases e; exact absurd h (UInt8.lt_irrefl x)
    · split
      · rename_i h
        constructor
        · intro e; cases e
        · intro e; cases e; exact absurd h (UInt8.lt_irrefl x)
      · rename_i h1 h2
        have hxy : x = y := by
          rw [UInt8.lt_iff_toNat_lt] at h1 h2
          exact UInt8.toNat_inj.1 (by omega)
        rw [ih, hxy]; simp
theorem cmp_lt {a b : ByteArray} : cmpS a b < 0 ↔ ltB a b = true := by
  unfold cmpS ltB; rw [cmpL_lt, ByteArray.toList_eq, ByteArray.toList_eq]
theorem cmp_zero {a b : ByteArray} : cmpS a b = 0 ↔ a = b := by
  unfold cmpS
  rw [cmpL_zero]
  exact ⟨fun h => ByteArray.ext (Array.toList_inj.1 h), fun h => by rw [h]⟩

instance lawB : LawfulBEq ByteArray where
  eq_of_beq {a b} h := by
    obtain ⟨x⟩ := a
    obtain ⟨y⟩ := b
    have : x = y := eq_of_beq (show (x == y) = true from h)
    rw [this]
  rfl {a} := by
    obtain ⟨x⟩ := a
    exact show (x == x) = true from beq_self_eq_true x

/-! keys that rise -/
section
variable {α : Type} {key : α → ByteArray}
def Rise (key : α → ByteArray) (l : List α) : Prop := l.Pairwise fun x y => ltB (key x) (key y) = true
theorem Rise.at {l : List α} (h : Rise key l) {i j : Nat} (hij : i < j) (hj : j < l.length) : ltB (key (l[i]'(by omega))) (key l[j]) = true := List.pairwise_iff_getElem.1 h i j (by omega) hj hij
/-- errors of a list, one behind another, with the key before -/
def seqErr (e : Bool → ByteArray → α → Int) (key : α → ByteArray) : Bool → ByteArray → List α → Int
  | _, _, [] => 0
  | f, b, x :: r => if e f b x = 0 then seqErr e key false (key x) r else e f b x
theorem seqErr_first {e : Bool → ByteArray → α → Int} (h : ∀ x, e true ⟨#[]⟩ x = e false ⟨#[]⟩ x) (l : List α) : seqErr e key true ⟨#[]⟩ l = seqErr e key false ⟨#[]⟩ l := by
  cases l with
  | nil => rfl
  | cons x r => simp only [seqErr, h]
theorem seqErr_first' {e : Bool → ByteArray → α → Int} {l : List α} (h : ∀ x ∈ l, e true ⟨#[]⟩ x = e false ⟨#[]⟩ x) : seqErr e key true ⟨#[]⟩ l = seqErr e key false ⟨#[]⟩ l := by
  cases l with
  | nil => rfl
  | cons x r => simp only [seqErr, h x (by simp)]
theorem seqErr_low {e : Bool → ByteArray → α → Int} (he : ∀ b x, e false b x = 0 → ltB b (key x) = true) : ∀ {l : List α} {b : ByteArray}, seqErr e key false b l = 0 → (∀ x ∈ l, ltB b (key x) = true) ∧ Rise key l
  | [], _, _ => ⟨by simp, List.Pairwise.nil⟩
  | x :: r, b, h => by
    simp only [seqErr] at h
    split at h
    · rename_i h0
      obtain ⟨h1, h2⟩ := seqErr_low he h
      have h3 := he b x h0
      refine ⟨?_, List.pairwise_cons.2 ⟨h1, h2⟩⟩
      intro y hy
      rcases List.mem_cons.1 hy with rfl | hy
      · exact h3
      · exact ltB_trans h3 (h1 y hy)
    · rename_i h0; exact absurd h h0
theorem seqErr_rise {e : Bool → ByteArray → α → Int} (he : ∀ b x, e false b x = 0 → ltB b (key x) = true) {l : List α} {f : Bool} {b : ByteArray} (h : seqErr e key f b l = 0) : Rise key l := by
  cases l with
  | nil => exact List.Pairwise.nil
  | cons x r =>
    simp only [seqErr] at h
    split at h
    · obtain ⟨h1, h2⟩ := seqErr_low he h
      exact List.pairwise_cons.2 ⟨h1, h2⟩
    · rename_i h0; exact absurd h h0
theorem seqErr_all {e : Bool → ByteArray → α → Int} : ∀ {l : List α} {f : Bool} {b : ByteArray}, seqErr e key f b l = 0 → ∀ x ∈ l, ∃ f b, e f b x = 0
  | [], _, _, _, x, hx => by simp at hx
  | y :: r, f, b, h, x, hx => by
    simp only [seqErr] at h
    split at h
    · rename_i h0
      rcases List.mem_cons.1 hx with rfl | hx
      · exact ⟨f, b, h0⟩
      · exact seqErr_all h x hx
    · rename_i h0; exact absurd h h0
theorem seqErr_drop {e : Bool → ByteArray → α → Int} {l : List α} {k : Nat} {f : Bool} {b : ByteArray} (h : k < l.length) : seqErr e key f b (l.drop k) = if e f b l[k] = 0 then seqErr e key false (key l[k]) (l.drop (k + 1)) else e f b l[k] := by
  rw [List.drop_eq_getElem_cons h, seqErr]
/-- the key before -/
def befK (key : α → ByteArray) (l : List α) (k : Nat) : ByteArray := if k = 0 then ⟨#[]⟩ else match l[k - 1]? with | some x => key x | none => ⟨#[]⟩
theorem befK_succ {l : List α} {k : Nat} (h : k < l.length) : befK key l (k + 1) = key l[k] := by
  unfold befK
  rw [if_neg (by omega), Nat.add_sub_cancel, List.getElem?_eq_getElem h]
theorem befK_pos {l : List α} {k : Nat} (h : k ≤ l.length) (h0 : 0 < k) : befK key l k = key (l[k - 1]'(by omega)) := by
  unfold befK
  rw [if_neg (by omega), List.getElem?_eq_getElem (show k - 1 < l.length by omega)]
end
theorem all_succ' {α : Type} {p : α → Bool} {l : List α} {k : Nat} {hk : k < l.length} (hi : ∀ i (h : i < l.length), i < k → p l[i] = false) (h : p l[k] = false) : ∀ i (h : i < l.length), i < k + 1 → p l[i] = false := by
  intro i hi1 hi2
  rcases Nat.lt_or_ge i k with h3 | h3
  · exact hi i hi1 h3
  · have : i = k := by omega
    subst this; exact h
/-! searching in two halves -/
def cntL {α : Type} (c : α → Int) (l : List α) : Nat := (l.takeWhile fun x => decide (c x < 0)).length
def hitL {α : Type} (c : α → Int) (l : List α) : Bool := match l[cntL c l]? with | some x => c x == 0 | none => false
theorem cntL_at {α : Type} {c : α → Int} : ∀ {l : List α} {i : Nat}, i ≤ l.length → (∀ k (h : k < l.length), k < i → c l[k] < 0) → (∀ k (h : k < l.length), i ≤ k → ¬ c l[k] < 0) → cntL c l = i
  | [], i, hi, _, _ => by simp at hi; subst hi; rfl
  | a :: r, i, hi, h1, h2 => by
    unfold cntL
    cases i with
    | zero =>
      have := h2 0 (by simp) (Nat.le_refl _)
      simp only [List.getElem_cons_zero] at this
      simp [List.takeWhile_cons, this]
    | succ i =>
      have h3 := h1 0 (by simp) (by omega)
      simp only [List.getElem_cons_zero] at h3
      have ih := cntL_at (c := c) (l := r) (i := i) (by simpa using hi) (fun k hk hki => by have := h1 (k + 1) (by simpa using hk) (by omega); simpa using this) (fun k hk hki => by have := h2 (k + 1) (by simpa using hk) (by omega); simpa using this)
      simp only [List.takeWhile_cons, h3, decide_true, if_true, List.length_cons]
      unfold cntL at ih
      rw [ih]
theorem mid_eq {i j : Nat} (h : i + j ≤ 4000000) : IntKind.i64.wrap (shV .shr .u64 (IntKind.u64.wrap (IntKind.i64.wrap ((i : Int) + (j : Int)))) 1) = (((i + j) / 2 : Nat) : Int) := by
  have e1 : IntKind.i64.wrap ((i : Int) + (j : Int)) = ((i + j : Nat) : Int) := by rw [wrap_in (by omega) (by omega)]; omega
  have e2 : IntKind.u64.wrap ((i + j : Nat) : Int) = ((i + j : Nat) : Int) := IntWalk.u64_in _ ⟨by omega, by omega⟩
  rw [e1, e2]
  have e3 : shV .shr .u64 ((i + j : Nat) : Int) 1 = (((i + j) / 2 : Nat) : Int) := by
    show Int.fdiv ((i + j : Nat) : Int) 2 = _
    rw [Int.fdiv_eq_ediv_of_nonneg _ (by omega)]; omega
  rw [e3, wrap_in (by omega) (by omega)]
theorem cntL_cons {α : Type} (c : α → Int) (a : α) (r : List α) : cntL c (a :: r) = if c a < 0 then cntL c r + 1 else 0 := by
  unfold cntL
  rw [List.takeWhile_cons]
  by_cases h : c a < 0 <;> simp [h]
theorem find_rise {α : Type} {key : α → ByteArray} {c : α → Int} {k : ByteArray} (hc : ∀ x, (c x < 0 ↔ ltB (key x) k = true) ∧ (c x = 0 ↔ key x = k)) : ∀ {l : List α}, Rise key l → (l.find? fun x => decide (key x = k)) = if hitL c l then l[cntL c l]? else none
  | [], _ => by simp [hitL, cntL]
  | a :: r, h => by
    obtain ⟨h1, h2⟩ := List.pairwise_cons.1 h
    have ih := find_rise hc h2
    by_cases ha : c a < 0
    · have hne : ¬ key a = k := fun e => by have := (hc a).2.2 e; omega
      have hh : hitL c (a :: r) = hitL c r := by unfold hitL; rw [cntL_cons, if_pos ha, List.getElem?_cons_succ]
      rw [List.find?_cons, hh, cntL_cons, if_pos ha, List.getElem?_cons_succ, ← ih]
      simp [hne]
    · have hh : hitL c (a :: r) = (c a == 0) := by unfold hitL; rw [cntL_cons, if_neg ha]; rfl
      rw [List.find?_cons, hh, cntL_cons, if_neg ha]
      by_cases h0 : c a = 0
      · simp [(hc a).2.1 h0, h0]
      · have hne : ¬ key a = k := fun e => h0 ((hc a).2.2 e)
        have hlt : ltB k (key a) = true := by
          rcases ltB_tri (key a) k with h3 | h3 | h3
          · exact absurd ((hc a).1.2 h3) ha
          · exact absurd h3 hne
          · exact h3
        have hn : r.find? (fun x => decide (key x = k)) = none := by
          rw [List.find?_eq_none]
          intro x hx
          have h3 := ltB_trans hlt (h1 x hx)
          simpa using (ltB_ne h3).symm
        simp [hne, h0, hn]
theorem rise_mono {α : Type} {key : α → ByteArray} {c : α → Int} {k : ByteArray} (hc : ∀ x, c x < 0 ↔ ltB (key x) k = true) {l : List α} (h : Rise key l) : ∀ i j (hj : j < l.length) (hij : i ≤ j), c l[j] < 0 → c (l[i]'(by omega)) < 0 := by
  intro i j hj hij hlt
  rcases Nat.lt_or_ge i j with h1 | h1
  · exact (hc _).2 (ltB_trans (h.at h1 hj) ((hc _).1 hlt))
  · have : i = j := by omega
    subst this; exact hlt
theorem rise_nodup {α : Type} {key : α → ByteArray} {l : List α} (h : Rise key l) : (l.map key).Nodup := by
  rw [List.Nodup, List.pairwise_map]
  exact h.imp fun h => ltB_ne h
/-- what rises and has the same keys is the same -/
theorem rise_ext : ∀ {a b : List ByteArray}, Rise id a → Rise id b → (∀ x, x ∈ a ↔ x ∈ b) → a = b
  | [], [], _, _, _ => rfl
  | [], y :: s, _, _, h => absurd ((h y).2 (by simp)) (by simp)
  | x :: r, [], _, _, h => absurd ((h x).1 (by simp)) (by simp)
  | x :: r, y :: s, ha, hb, h => by
    obtain ⟨a1, a2⟩ := List.pairwise_cons.1 ha
    obtain ⟨b1, b2⟩ := List.pairwise_cons.1 hb
    have hxy : x = y := by
      rcases List.mem_cons.1 ((h x).1 (by simp)) with h1 | h1
      · exact h1
      · rcases List.mem_cons.1 ((h y).2 (by simp)) with h2 | h2
        · exact h2.symm
        · have h3 := b1 x h1
          have h4 := a1 y h2
          simp only [id] at h3 h4
          rw [ltB_asym h3] at h4; cases h4
    subst hxy
    congr 1
    refine rise_ext a2 b2 fun z => ?_
    constructor
    · intro hz
      rcases List.mem_cons.1 ((h z).1 (by simp [hz])) with h1 | h1
      · subst h1; have := a1 z hz; simp only [id] at this; rw [ltB_irr] at this; cases this
      · exact h1
    · intro hz
      rcases List.mem_cons.1 ((h z).2 (by simp [hz])) with h1 | h1
      · subst h1; have := b1 z hz; simp only [id] at this; rw [ltB_irr] at this; cases this
      · exact h1
theorem rise_map {α : Type} {key : α → ByteArray} {l : List α} (h : Rise key l) : Rise id (l.map key) := by
  unfold Rise at h ⊢
  rw [List.pairwise_map]; exact h
theorem rise_filter {α : Type} {key : α → ByteArray} {l : List α} (p : α → Bool) (h : Rise key l) : Rise key (l.filter p) := List.Pairwise.filter p h
/-- what is found is there once -/
theorem rise_find {α : Type} {key : α → ByteArray} {l : List α} (h : Rise key l) {x : α} (hx : x ∈ l) : (l.find? fun y => decide (key y = key x)) = some x := by
  induction l with
  | nil => simp at hx
  | cons a r ih =>
    obtain ⟨h1, h2⟩ := List.pairwise_cons.1 h
    rw [List.find?_cons]
    rcases List.mem_cons.1 hx with rfl | hx
    · simp
    · have := ltB_ne (h1 x hx)
      simp [this, ih h2 hx]
end Go.Proofs.YtmdcgimpgoacdaaGreatDoor

/- Sorting by insertion, lists without equal neighbours: as functions on lists. -/
namespace Go.Proofs.YtmdcgimpgoacdaaGreatDoor
set_option linter.unusedVariables false
set_option linter.unusedSimpArgs false
open Abs

def insDown {α : Type} (c : α → α → Int) (a : Nat) : Nat → List α → List α
  | 0, l => l
  | j + 1, l => if a < j + 1 then (match l[j + 1]?, l[j]? with | some x, some y => if c x y < 0 then insDown c a j ((l.set (j + 1) y).set j x) else l | _, _ => l) else l
def insTo {α : Type} (c : α → α → Int) (a : Nat) : Nat → List α → List α
  | 0, l => l
  | m + 1, l => insDown c a (a + 1 + m) (insTo c a m l)
/-- sorted by insertion -/
def insSort {α : Type} (c : α → α → Int) (l : List α) : List α := insTo c 0 (l.length - 1) l
theorem insDown_len {α : Type} (c : α → α → Int) (a : Nat) : ∀ (j : Nat) (l : List α), (insDown c a j l).length = l.length
  | 0, l => rfl
  | j + 1, l => by
    unfold insDown
    split
    · split
      · split
        · rw [insDown_len]; simp
        · rfl
      · rfl
    · rfl
theorem insTo_len {α : Type} (c : α → α → Int) (a : Nat) : ∀ (m : Nat) (l : List α), (insTo c a m l).length = l.length
  | 0, l => rfl
  | m + 1, l => by rw [insTo, insDown_len, insTo_len]
theorem insSort_len {α : Type} (c : α → α → Int) (l : List α) : (insSort c l).length = l.length := insTo_len ..
theorem swap_perm {α : Type} {l : List α} {j : Nat} {x y : α} (hx : l[j + 1]? = some x) (hy : l[j]? = some y) : ((l.set (j + 1) y).set j x).Perm l := by
  induction l generalizing j with
  | nil => simp at hx
  | cons a r ih =>
    cases j with
    | zero =>
      cases r with
      | nil => simp at hx
      | cons b r => simp at hx hy; subst hx hy; exact List.Perm.swap _ _ _
    | succ j => exact List.Perm.cons a (ih (by simpa using hx) (by simpa using hy))
theorem insDown_perm {α : Type} (c : α → α → Int) (a : Nat) : ∀ (j : Nat) (l : List α), (insDown c a j l).Perm l
  | 0, l => List.Perm.refl _
  | j + 1, l => by
    unfold insDown
    split
    · split
      · rename_i x y hx hy
        split
        · exact (insDown_perm c a j _).trans (swap_perm hx hy)
        · exact List.Perm.refl _
      · exact List.Perm.refl _
    · exact List.Perm.refl _
theorem insTo_perm {α : Type} (c : α → α → Int) (a : Nat) : ∀ (m : Nat) (l : List α), (insTo c a m l).Perm l
  | 0, l => List.Perm.refl _
  | m + 1, l => (insDown_perm c a _ _).trans (insTo_perm c a m l)
theorem insSort_perm {α : Type} (c : α → α → Int) (l : List α) : (insSort c l).Perm l := insTo_perm ..
theorem insDown_step {α : Type} {c : α → α → Int} {a j : Nat} {l : List α} (h : a < j + 1) (h1 : j + 1 < l.length) (hc : c l[j + 1] (l[j]'(by omega)) < 0) : insDown c a (j + 1) l = insDown c a j ((l.set (j + 1) (l[j]'(by omega))).set j l[j + 1]) := by
  rw [insDown, if_pos h, List.getElem?_eq_getElem h1, List.getElem?_eq_getElem (show j < l.length by omega)]
  simp only [if_pos hc]
theorem insDown_stop {α : Type} {c : α → α → Int} {a j : Nat} {l : List α} (h1 : j + 1 < l.length) (hc : ¬ c l[j + 1] (l[j]'(by omega)) < 0) : insDown c a (j + 1) l = l := by
  rw [insDown, List.getElem?_eq_getElem h1, List.getElem?_eq_getElem (show j < l.length by omega)]
  simp only [if_neg hc]
  split <;> rfl
theorem insDown_low {α : Type} {c : α → α → Int} {a j : Nat} {l : List α} (h : ¬ a < j) : insDown c a j l = l := by
  cases j with
  | zero => rfl
  | succ j => rw [insDown, if_neg h]
theorem row_at {α : Type} {enc : α → List V} {l : List α} {i : Nat} {k : List V → Prop} (j : Nat) (hi : i = j) (hj : j < l.length) (hk : k (enc l[j])) : RowG (l.map enc) i k := by subst hi; exact row_map hj hk
theorem toN {n : Nat} : ((n : Int)).toNat = n := Int.toNat_natCast n
/-! lists: of equal neighbours one alone -/
def cptA {α : Type} [DecidableEq α] : α → List α → List α
  | _, [] => []
  | a, b :: r => if b = a then cptA a r else b :: cptA b r
def cpt {α : Type} [DecidableEq α] : List α → List α
  | [] => []
  | a :: r => a :: cptA a r
theorem cptA_len {α : Type} [DecidableEq α] : ∀ (a : α) (l : List α), (cptA a l).length ≤ l.length
  | _, [] => Nat.le_refl _
  | a, b :: r => by
    unfold cptA
    split
    · have := cptA_len a r; simp; omega
    · have := cptA_len b r; simp; omega
theorem cpt_len {α : Type} [DecidableEq α] (l : List α) : (cpt l).length ≤ l.length := by
  cases l with
  | nil => exact Nat.le_refl _
  | cons a r => have := cptA_len a r; simp [cpt]; omega
theorem cptA_id {α : Type} [DecidableEq α] : ∀ (a : α) (r : List α), cptA a r = r ↔ ∀ i (h : i + 1 < (a :: r).length), (a :: r)[i + 1] ≠ (a :: r)[i]
  | a, [] => by simp [cptA]
  | a, b :: r => by
    unfold cptA
    split
    · rename_i e
      constructor
      · intro h
        have := cptA_len a r
        rw [h] at this; simp at this; omega
      · intro h; exact (h 0 (by simp) (by simpa using e)).elim
    · rename_i e
      rw [List.cons.injEq]
      constructor
      · rintro ⟨_, h⟩ i hi
        cases i with
        | zero => simpa using e
        | succ i => exact (cptA_id b r).1 h i (by simpa using hi)
      · intro h
        refine ⟨rfl, (cptA_id b r).2 fun i hi => ?_⟩
        have := h (i + 1) (by simpa using hi)
        simpa using this
theorem cpt_id {α : Type} [DecidableEq α] (l : List α) : cpt l = l ↔ ∀ i (h : i + 1 < l.length), l[i + 1] ≠ l[i] := by
  cases l with
  | nil => simp [cpt]
  | cons a r => rw [cpt, List.cons.injEq]; simp only [true_and]; exact cptA_id a r
/-- the first ones are kept, and then the rest is looked at -/
theorem cpt_from {α : Type} [DecidableEq α] : ∀ (l : List α) (k : Nat) (hk : k < l.length), (∀ i (h : i + 1 < l.length), i + 1 ≤ k → l[i + 1] ≠ l[i]) → cpt l = l.take (k + 1) ++ cptA l[k] (l.drop (k + 1))
  | [], k, hk, _ => by simp at hk
  | a :: r, 0, _, _ => by simp [cpt]
  | [a], k + 1, hk, _ => by simp at hk
  | a :: b :: r, k + 1, hk, h => by
    have h0 := h 0 (by simp) (by omega)
    have ih := cpt_from (b :: r) k (by simpa using hk) (fun i hi h1 => by have := h (i + 1) (by simpa using hi) (by omega); simpa using this)
    rw [cpt] at ih ⊢
    rw [cptA, if_neg (by simpa using h0), ih]
    simp
theorem mem_cptA {α : Type} [DecidableEq α] : ∀ {a : α} {r : List α} {x : α}, x ∈ cptA a r → x ∈ r
  | _, [], _, h => h
  | a, b :: r, x, h => by
    unfold cptA at h
    split at h
    · exact List.mem_cons_of_mem _ (mem_cptA h)
    · rcases List.mem_cons.1 h with h | h
      · rw [h]; exact List.mem_cons_self
      · exact List.mem_cons_of_mem _ (mem_cptA h)
theorem mem_cpt {α : Type} [DecidableEq α] {l : List α} {x : α} (h : x ∈ cpt l) : x ∈ l := by
  cases l with
  | nil => exact h
  | cons a r =>
    rcases List.mem_cons.1 h with h | h
    · rw [h]; exact List.mem_cons_self
    · exact List.mem_cons_of_mem _ (mem_cptA h)
theorem cptA_drop {α : Type} [DecidableEq α] {l : List α} {j : Nat} (h0 : 0 < j) (h : j < l.length) : cptA (l[j - 1]'(by omega)) (l.drop j) = if l[j] = l[j - 1]'(by omega) then cptA (l[j]) (l.drop (j + 1)) else l[j] :: cptA (l[j]) (l.drop (j + 1)) := by
  rw [List.drop_eq_getElem_cons h, cptA]
  split
  · rename_i e; simp only [e]
  · rfl
theorem notT {b : Bool} (h : (!b) = true) : b = false := by cases b <;> simp_all
theorem notF {b : Bool} (h : (!b) = false) : b = true := by cases b <;> simp_all
theorem getElem_of_drop {α : Type} {q l : List α} {p i : Nat} (hd : q.drop p = l.drop p) (hpi : p ≤ i) (h1 : i < q.length) (h2 : i < l.length) : q[i] = l[i] := by
  have h3 := congrArg (fun r => r[i - p]?) hd
  simp only [List.getElem?_drop, show p + (i - p) = i by omega, List.getElem?_eq_getElem h1, List.getElem?_eq_getElem h2] at h3
  exact Option.some.inj h3
theorem drop_more {α : Type} {q l : List α} {p : Nat} (hd : q.drop p = l.drop p) : q.drop (p + 1) = l.drop (p + 1) := by
  rw [← List.drop_drop, ← List.drop_drop, hd]
theorem getDD {α : Type} {l : List α} {i : Nat} {d : α} (h : i < l.length) : l.getD i d = l[i] := by simp [h]
theorem cpt_same {α : Type} [DecidableEq α] {q l C : List α} {p j : Nat} {d : α} (hp : p + 1 < l.length) (hd : q.drop p = l.drop p) (hc : q.take j ++ cptA (l.getD p d) (l.drop (p + 1)) = C) (he : l[p + 1] = l[p]'(by omega)) :
    q.drop (p + 1) = l.drop (p + 1) ∧ q.take j ++ cptA (l.getD (p + 1) d) (l.drop (p + 1 + 1)) = C := by
  refine ⟨drop_more hd, ?_⟩
  rw [← hc, List.drop_eq_getElem_cons hp, cptA, getDD hp, getDD (show p < l.length by omega), if_pos he, he]
theorem cpt_new {α : Type} [DecidableEq α] {q l C : List α} {p j : Nat} {d : α} (hq : q.length = l.length) (hp : p + 1 < l.length) (hj : j ≤ p) (hd : q.drop p = l.drop p) (hc : q.take j ++ cptA (l.getD p d) (l.drop (p + 1)) = C) (he : ¬ l[p + 1] = l[p]'(by omega)) :
    (q.set j l[p + 1]).drop (p + 1) = l.drop (p + 1) ∧ (q.set j l[p + 1]).take (j + 1) ++ cptA (l.getD (p + 1) d) (l.drop (p + 1 + 1)) = C := by
  refine ⟨by rw [List.drop_set_of_lt (by omega)]; exact drop_more hd, ?_⟩
  rw [← hc, List.drop_eq_getElem_cons hp, cptA, getDD hp, getDD (show p < l.length by omega), if_neg he]
  have h1 : (q.set j l[p + 1]).take (j + 1) = q.take j ++ [l[p + 1]] := by
    rw [List.take_succ_eq_append_getElem (by simp; omega), List.take_set_of_le (Nat.le_refl _), List.getElem_set_self]
  rw [h1]
  simp
end Go.Proofs.YtmdcgimpgoacdaaGreatDoor

/- Sorted lists: sorting by insertion sorts; lists that rise by keys are told by what they hold. -/
namespace Go.Proofs.YtmdcgimpgoacdaaGreatDoor
set_option linter.unusedVariables false
set_option linter.unusedSimpArgs false
open Abs

/-- in order up to m, but for the one at j, which is not greater than any behind it -/
def InsInv {α : Type} (c : α → α → Int) (m j : Nat) (l : List α) : Prop :=
  (∀ i k x y, i < k → k ≤ m → i ≠ j → k ≠ j → l[i]? = some x → l[k]? = some y → ¬ c y x < 0) ∧ ∀ k x y, j < k → k ≤ m → l[j]? = some x → l[k]? = some y → ¬ c y x < 0
def SrtTo {α : Type} (c : α → α → Int) (n : Nat) (l : List α) : Prop := ∀ i k x y, i < k → k < n → l[i]? = some x → l[k]? = some y → ¬ c y x < 0
theorem insDown_srt {α : Type} {c : α → α → Int} (hc : SWOc c) (m : Nat) : ∀ (j : Nat) (l : List α), j ≤ m → m < l.length → InsInv c m j l → SrtTo c (m + 1) (insDown c 0 j l)
  | 0, l, _, hm, ⟨h1, h2⟩ => by
    intro i k x y hik hk hx hy
    rw [insDown] at hx hy
    by_cases e : i = 0
    · subst e; exact h2 k x y hik (by omega) hx hy
    · exact h1 i k x y hik (by omega) e (by omega) hx hy
  | j + 1, l, hj, hm, ⟨h1, h2⟩ => by
    by_cases hlt : c (l[j + 1]'(by omega)) (l[j]'(by omega)) < 0
    · rw [insDown_step (by omega) (by omega) hlt]
      refine insDown_srt hc m j _ (by omega) (by simpa using hm) ⟨?_, ?_⟩
      · intro i k x y hik hk hij hkj hx hy
        rw [List.getElem?_set_ne (Ne.symm hij)] at hx
        rw [List.getElem?_set_ne (Ne.symm hkj)] at hy
        by_cases e1 : k = j + 1
        · subst e1
          rw [List.getElem?_set_ne (by omega)] at hx
          rw [List.getElem?_set_self (by omega)] at hy
          cases hy
          exact h1 i j x _ (by omega) (by omega) (by omega) (by omega) hx (List.getElem?_eq_getElem (by omega))
        · by_cases e2 : i = j + 1
          · subst e2
            rw [List.getElem?_set_self (by omega)] at hx
            rw [List.getElem?_set_ne (by omega)] at hy
            cases hx
            exact h1 j k _ y (by omega) hk (by omega) e1 (List.getElem?_eq_getElem (by omega)) hy
          · rw [List.getElem?_set_ne (by omega)] at hx hy
            exact h1 i k x y hik hk e2 e1 hx hy
      · intro k x y hjk hk hx hy
        rw [List.getElem?_set_self (by simp; omega)] at hx
        cases hx
        rw [List.getElem?_set_ne (by omega)] at hy
        by_cases e1 : k = j + 1
        · subst e1
          rw [List.getElem?_set_self (by omega)] at hy
          cases hy
          intro h6
          exact hc.irrefl _ (hc.trans _ _ _ hlt h6)
        · rw [List.getElem?_set_ne (by omega)] at hy
          exact h2 k _ y (by omega) hk (List.getElem?_eq_getElem (by omega)) hy
    · rw [insDown_stop (by omega) hlt]
      intro i k x y hik hk hx hy
      by_cases e1 : k = j + 1
      · subst e1
        rw [List.getElem?_eq_getElem (by omega)] at hy
        cases hy
        by_cases e2 : i = j
        · subst e2
          rw [List.getElem?_eq_getElem (by omega)] at hx
          cases hx
          exact hlt
        · exact hc.ntrans _ _ _ hlt (h1 i j x _ (by omega) (by omega) (by omega) (by omega) hx (List.getElem?_eq_getElem (by omega)))
      · by_cases e2 : i = j + 1
        · subst e2; exact h2 k x y hik (by omega) hx hy
        · exact h1 i k x y hik (by omega) e2 e1 hx hy
theorem insTo_srt {α : Type} {c : α → α → Int} (hc : SWOc c) (l : List α) : ∀ m, m < l.length → SrtTo c (m + 1) (insTo c 0 m l)
  | 0, _ => fun i k x y h1 h2 => by omega
  | m + 1, h => by
    have ih := insTo_srt hc l m (by omega)
    rw [insTo, show 0 + 1 + m = m + 1 by omega]
    refine insDown_srt hc (m + 1) (m + 1) _ (Nat.le_refl _) (by rw [insTo_len]; exact h) ⟨?_, ?_⟩
    · intro i k x y hik hk _ hk2 hx hy
      exact ih i k x y hik (by omega) hx hy
    · intro k x y h1 h2; omega
theorem insSort_srt {α : Type} {c : α → α → Int} (hc : SWOc c) (l : List α) : (insSort c l).Pairwise fun x y => ¬ c y x < 0 := by
  unfold insSort
  cases h : l with
  | nil => exact List.Pairwise.nil
  | cons a r =>
    rw [← h]
    have h0 : 0 < l.length := by rw [h]; simp
    have := insTo_srt hc l (l.length - 1) (by omega)
    rw [List.pairwise_iff_getElem]
    intro i k hi hk hik
    have hlen := insTo_len c 0 (l.length - 1) l
    exact this i k _ _ hik (by omega) (List.getElem?_eq_getElem hi) (List.getElem?_eq_getElem hk)
theorem swo_key {α : Type} (key : α → ByteArray) : SWOc fun a b : α => cmpS (key a) (key b) where
  irrefl x := by rw [cmp_lt, ltB_irr]; simp
  trans x y z h1 h2 := cmp_lt.2 (ltB_trans (cmp_lt.1 h1) (cmp_lt.1 h2))
  ntrans x y z h1 h2 := by
    rw [cmp_lt] at h1 h2 ⊢
    intro h3
    rcases ltB_tri (key x) (key y) with h | h | h
    · exact h1 h
    · rw [h] at h3; exact h2 h3
    · exact h2 (ltB_trans h h3)
theorem rise_of {α : Type} {key : α → ByteArray} {l : List α} (h : l.Pairwise fun x y => ¬ cmpS (key y) (key x) < 0) (hn : (l.map key).Nodup) : Rise key l := by
  unfold Rise
  have hn' : l.Pairwise fun x y => key x ≠ key y := List.pairwise_map.1 hn
  refine (h.and hn').imp ?_
  rintro x y ⟨h1, h2⟩
  rw [cmp_lt] at h1
  rcases ltB_tri (key x) (key y) with h | h | h
  · exact h
  · exact (h2 h).elim
  · exact (h1 h).elim
theorem rise_one {α : Type} {key : α → ByteArray} : ∀ {a b : List α}, a.Perm b → Rise key a → Rise key b → a = b
  | [], b, hp, _, _ => by rw [List.nil_perm.1 hp]
  | x :: r, [], hp, _, _ => by have := hp.length_eq; simp at this
  | x :: r, y :: t, hp, h1, h2 => by
    obtain ⟨a1, a2⟩ := List.pairwise_cons.1 h1
    obtain ⟨b1, b2⟩ := List.pairwise_cons.1 h2
    have hxy : x = y := by
      rcases List.mem_cons.1 (hp.mem_iff.1 (show x ∈ x :: r by simp)) with h | h
      · exact h
      · rcases List.mem_cons.1 (hp.mem_iff.2 (show y ∈ y :: t by simp)) with h' | h'
        · exact h'.symm
        · have := ltB_asym (a1 y h'); rw [b1 x h] at this; cases this
    subst hxy
    rw [rise_one (List.Perm.cons_inv hp) a2 b2]
end Go.Proofs.YtmdcgimpgoacdaaGreatDoor

/- Plans: what is left on drums, by the abstract walk. -/
namespace Go.Proofs.YtmdcgimpgoacdaaGreatDoor
set_option linter.unusedVariables false
set_option linter.unusedSimpArgs false
open Abs

theorem pcsErr_ok : ∀ (l : List Pc) (f : Bool) (b : ByteArray), pcsErr f b l = 0 → ∀ x ∈ l, 1 ≤ x.long ∧ x.long ≤ 200000
  | [], _, _, _, x, hx => by simp at hx
  | y :: r, f, b, h, x, hx => by
    simp only [pcsErr] at h
    split at h
    · rename_i h1
      rcases List.mem_cons.1 hx with rfl | hx
      · unfold pcErr at h1
        split at h1
        · omega
        · split at h1
          · omega
          · split at h1 <;> omega
      · exact pcsErr_ok r _ _ h x hx
    · rename_i h1; exact absurd h h1
theorem pcFault_ok {l : List Pc} (h : pcFault l = 0) : l.length ≤ 100 ∧ ∀ x ∈ l, 1 ≤ x.long ∧ x.long ≤ 200000 := by
  unfold pcFault at h
  split at h
  · omega
  · exact ⟨by omega, pcsErr_ok l _ _ h⟩
theorem allErr_ok {d s : List Pc} {r : Int × Int} (h : allErr d s r = 0) : pcFault d = 0 ∧ pcFault s = 0 ∧ 0 ≤ r.1 ∧ r.1 ≤ 1000 ∧ 0 ≤ r.2 ∧ r.2 ≤ 1000 := by
  unfold allErr firstErr firstErr firstErr firstErr at h
  split at h
  · split at h
    · split at h
      · rename_i h1 h2 h3
        unfold ruleErr at h3
        split at h3
        · omega
        · exact ⟨h1, h2, by omega, by omega, by omega, by omega⟩
      · rename_i h3; exact absurd h h3
    · rename_i h3; exact absurd h h3
  · rename_i h3; exact absurd h h3

/-- the index of the first one for which something is so -/
def idxP {α : Type} (p : α → Bool) (l : List α) : Int := if l.any p then (l.findIdx p : Int) else -1
theorem idxP_hit {α : Type} {p : α → Bool} {l : List α} {k : Nat} (hk : k < l.length) (h : ∀ i (hi : i < k), p (l[i]'(by omega)) = false) (hp : p l[k] = true) : idxP p l = k := by
  have h1 : l.any p = true := List.any_eq_true.2 ⟨_, List.getElem_mem hk, hp⟩
  have h2 : l.findIdx p = k := by
    rw [List.findIdx_eq hk]
    exact ⟨hp, fun j hj => by simpa using h j hj⟩
  rw [idxP, if_pos h1, h2]
theorem idxP_miss {α : Type} {p : α → Bool} {l : List α} (h : ∀ i (hi : i < l.length), p l[i] = false) : idxP p l = -1 := by
  have h1 : ¬ l.any p = true := by
    rw [List.any_eq_true]
    rintro ⟨x, hx, hp⟩
    obtain ⟨i, hi, rfl⟩ := List.getElem_of_mem hx
    rw [h i hi] at hp; cases hp
  rw [idxP, if_neg h1]
theorem idxP_any {α : Type} (p : α → Bool) (l : List α) : decide (0 ≤ idxP p l) = l.any p := by
  unfold idxP
  cases l.any p <;> simp
/-- the pieces, seen through a function -/
abbrev pcBox (l : List Pc) : Ob := .box [.lst 3 (l.map encPc)]
end Go.Proofs.YtmdcgimpgoacdaaGreatDoor

/- What is left on drums after a plan, by the abstract walk. -/
namespace Go.Proofs.YtmdcgimpgoacdaaGreatDoor
set_option linter.unusedVariables false
set_option linter.unusedSimpArgs false
open Abs

/-- the error of one cut of a plan, and of a plan -/
def planErr1 (d s : List Pc) (i : Nat) (k : Int) : Int :=
  if k = -1 then 0 else if k < 0 ∨ (d.length : Int) - 1 < k then 8 else if (d.getD k.toNat default).kind ≠ (s.getD i default).kind then 4 else 0
def planErrs (d s : List Pc) : Nat → List Int → Int
  | _, [] => 0
  | i, k :: r => if planErr1 d s i k = 0 then planErrs d s (i + 1) r else planErr1 d s i k
/-- what the first cuts of a plan need of a drum -/
def needV (s : List Pc) (lost : Int) (plan : List Int) (j : Nat) : Nat → Int
  | 0 => 0
  | m + 1 => needV s lost plan j m + (if plan.getD m (-1) = j then (s.getD m default).long + lost else 0)
def leftL (d s : List Pc) (lost : Int) (plan : List Int) (m : Nat) : List Int :=
  (List.range d.length).map fun j => (d.getD j default).long - needV s lost plan j m
theorem leftL_len (d s : List Pc) (lost : Int) (plan : List Int) (m : Nat) : (leftL d s lost plan m).length = d.length := by simp [leftL]
theorem leftL_get {d s : List Pc} {lost : Int} {plan : List Int} {m j : Nat} (h : j < (leftL d s lost plan m).length) : (leftL d s lost plan m)[j] = (d.getD j default).long - needV s lost plan j m := by simp [leftL]
theorem needV_in {s : List Pc} {lost : Int} (hs : ∀ x ∈ s, 1 ≤ x.long ∧ x.long ≤ 200000) (h0 : 0 ≤ lost) (h1 : lost ≤ 1000) (plan : List Int) (j : Nat) : ∀ m, m ≤ s.length → 0 ≤ needV s lost plan j m ∧ needV s lost plan j m ≤ 201000 * m
  | 0, _ => by simp [needV]
  | m + 1, h => by
    have ih := needV_in hs h0 h1 plan j m (by omega)
    have hm : (s.getD m default) = s[m]'(by omega) := by simp [show m < s.length by omega]
    have := hs _ (List.getElem_mem (show m < s.length by omega))
    rw [needV, hm]
    split <;> omega
/-- the error of what is left, and what is left -/
def leftE (d s : List Pc) (r : Int × Int) (plan : List Int) : Int :=
  if allErr d s r ≠ 0 then allErr d s r else if plan.length ≠ s.length then 3 else if planErrs d s 0 plan ≠ 0 then planErrs d s 0 plan else if (leftL d s r.1 plan plan.length).any (fun x => decide (x < 0)) then 12 else 0
def leftV (d s : List Pc) (r : Int × Int) (plan : List Int) : List Int := if leftE d s r plan = 0 then leftL d s r.1 plan plan.length else []
theorem leftV_ne {d s : List Pc} {r : Int × Int} {plan : List Int} {e : Int} (h : leftE d s r plan = e) (he : e ≠ 0) : leftV d s r plan = [] := by rw [leftV, if_neg (by omega)]

theorem leftR {d s : List Pc} {r : Int × Int} {plan : List Int} {e : Int} {os : List Ob} (h : leftE d s r plan = e) (he : e ≠ 0) (ho : os = []) :
    FinR 0 (.tup [.c (.lst 1 ((leftV d s r plan).map encI)), .c (.int .i64 (leftE d s r plan))]) [] (.tup [.c .nils, .c (.int .i64 e)]) os := by
  rw [leftV_ne h he, h]
  refine .weak os (.tup _ _ rfl ?_) rfl (Nat.le_refl _)
  intro i a b ha hb
  match i with
  | 0 => cases ha; cases hb; exact .nil 1
  | 1 => cases ha; cases hb; exact .refl _
theorem planErrs_ge {d s : List Pc} : ∀ (l : List Int) (i : Nat) , planErrs d s i l = 0 ∨ planErrs d s i l = 8 ∨ planErrs d s i l = 4
  | [], _ => .inl rfl
  | k :: r, i => by
    rw [planErrs]
    split
    · exact planErrs_ge r (i + 1)
    · unfold planErr1; repeat' split
      all_goals omega
theorem toList_inj {a b : ByteArray} (h : a.toList = b.toList) : a = b := by
  rw [ByteArray.toList_eq, ByteArray.toList_eq] at h
  exact ByteArray.ext (Array.toList_inj.1 h)
theorem leftL_set {d s : List Pc} {lost : Int} {plan : List Int} {m k : Nat} (hk : k < d.length) (hp : plan.getD m (-1) = k) (x : Int) (hx : x = (d.getD k default).long - needV s lost plan k m - ((s.getD m default).long + lost)) :
    (leftL d s lost plan m).set k x = leftL d s lost plan (m + 1) := by
  apply List.ext_getElem
  · simp [leftL_len]
  · intro i h1 h2
    rw [List.getElem_set]
    rw [leftL_get, leftL_get, needV, hp]
    split
    · rename_i e; subst e; rw [hx]; simp; omega
    · rename_i e; rw [if_neg (by omega)]; omega
theorem leftL_skip {d s : List Pc} {lost : Int} {plan : List Int} {m : Nat} (hp : plan.getD m (-1) = -1) : leftL d s lost plan (m + 1) = leftL d s lost plan m := by
  unfold leftL
  apply List.map_congr_left
  intro j _
  rw [needV, hp, if_neg (by omega)]; omega

end Go.Proofs.YtmdcgimpgoacdaaGreatDoor

/- Waste of plans, and the document's answers, by the abstract walk. -/
namespace Go.Proofs.YtmdcgimpgoacdaaGreatDoor
set_option linter.unusedVariables false
set_option linter.unusedSimpArgs false
open Abs

/-- what the cuts lose, and what is scrapped -/
def lostV (lost : Int) (plan : List Int) : Nat → Int
  | 0 => 0
  | m + 1 => lostV lost plan m + (if plan.getD m (-1) < 0 then 0 else lost)
def restV (scrap : Int) (plan l : List Int) : Nat → Int
  | 0 => 0
  | k + 1 => restV scrap plan l k + (if l.getD k 0 < scrap ∧ plan.any ((k : Int) == ·) = true then l.getD k 0 else 0)
def wasteN (r : Int × Int) (plan l : List Int) : Int := lostV r.1 plan plan.length + restV r.2 plan l l.length
theorem lostV_in {lost : Int} (h0 : 0 ≤ lost) (h1 : lost ≤ 1000) (plan : List Int) : ∀ m, 0 ≤ lostV lost plan m ∧ lostV lost plan m ≤ 1000 * m
  | 0 => by simp [lostV]
  | m + 1 => by have := lostV_in h0 h1 plan m; rw [lostV]; split <;> omega
theorem restV_in {scrap : Int} (h1 : scrap ≤ 1000) (plan : List Int) {l : List Int} (hl : l.any (fun x => decide (x < 0)) = false) : ∀ k, 0 ≤ restV scrap plan l k ∧ restV scrap plan l k ≤ 1000 * k
  | 0 => by simp [restV]
  | k + 1 => by
    have := restV_in h1 plan hl k
    have h2 : 0 ≤ l.getD k 0 := by
      rcases Nat.lt_or_ge k l.length with h | h
      · have h3 := List.any_eq_false.1 hl _ (List.getElem_mem h)
        simp at h3
        simpa [h] using h3
      · simp [List.getElem?_eq_none h]
    rw [restV]; split <;> omega
theorem restV_hit {scrap : Int} {plan l : List Int} {k : Nat} (hk : k < l.length) (h1 : l[k] < scrap) (h2 : plan.any (fun x => (k : Int) == x) = true) (A : Int) : A + restV scrap plan l k + l[k] = A + restV scrap plan l (k + 1) := by
  have hg : l.getD k 0 = l[k] := by simp [hk]
  rw [restV, hg, if_pos ⟨h1, h2⟩]; omega
theorem restV_miss {scrap : Int} {plan l : List Int} {k : Nat} (hk : k < l.length) (h : ¬ (l[k] < scrap ∧ plan.any (fun x => (k : Int) == x) = true)) : restV scrap plan l (k + 1) = restV scrap plan l k := by
  have hg : l.getD k 0 = l[k] := by simp [hk]
  rw [restV, hg, if_neg h]; omega
theorem leftE_ok {d s : List Pc} {r : Int × Int} {plan : List Int} (h : leftE d s r plan = 0) : allErr d s r = 0 ∧ plan.length = s.length ∧ planErrs d s 0 plan = 0 ∧ (leftL d s r.1 plan plan.length).any (fun x => decide (x < 0)) = false := by
  unfold leftE at h
  split at h
  · omega
  · split at h
    · omega
    · split at h
      · omega
      · split at h
        · omega
        · refine ⟨by omega, by omega, by omega, by simp_all⟩
def wasteV (d s : List Pc) (r : Int × Int) (plan : List Int) : Int := if leftE d s r plan = 0 then wasteN r plan (leftV d s r plan) else 0
/-! the document's answers -/
theorem needV_hit {s : List Pc} {lost : Int} {plan : List Int} {k m : Nat} (hm : m < plan.length) (hs : m < s.length) (h : plan[m] = k) : needV s lost plan k (m + 1) = needV s lost plan k m + (s[m].long + lost) := by
  rw [needV, if_pos (by simp [hm, h])]; simp [hs]
theorem needV_miss {s : List Pc} {lost : Int} {plan : List Int} {k m : Nat} (hm : m < plan.length) (h : plan[m] ≠ k) : needV s lost plan k (m + 1) = needV s lost plan k m := by
  rw [needV, if_neg (by simpa [hm] using h)]; omega
def planF (d s : List Pc) (r : Int × Int) (plan : List Int) : Int :=
  if plan.length ≠ s.length then 3 else if planErrs d s 0 plan ≠ 0 then planErrs d s 0 plan else if (leftL d s r.1 plan plan.length).any (fun x => decide (x < 0)) then 12 else 0
theorem leftE_plan (d s : List Pc) (r : Int × Int) (plan : List Int) : leftE d s r plan = if allErr d s r ≠ 0 then allErr d s r else planF d s r plan := rfl
end Go.Proofs.YtmdcgimpgoacdaaGreatDoor

/- Rules and plans are made, lists compared. -/
namespace Go.Proofs.YtmdcgimpgoacdaaGreatDoor
set_option linter.unusedVariables false
set_option linter.unusedSimpArgs false
open Abs

def cutV (L : List Int) (p : Int) : (Int × Int) × Int :=
  if nextV L (p + 1 + 1) 15 == 0 then ((pickV L (p + 1 + 1 + 1) [0, -1, 1000, 1001], pickV L (p + 1 + 1 + 1 + 1) [5, -1, 1001]), p + 1 + 1 + 1 + 1 + 1)
  else ((pickV L p [0, 1, 1, 5], pickV L (p + 1) [0, 10, 20, 40]), p + 1 + 1 + 1)
/-- the cuts of a plan that is made -/
def cutsV (L : List Int) (nd : Nat) (p : Int) (n : Nat) : List Int := (List.range n).map fun (i : Nat) => rangeV L (p + i) (-1) (nd - 1)
theorem cutsV_succ (L : List Int) (nd : Nat) (p : Int) (n : Nat) : cutsV L nd p (n + 1) = cutsV L nd p n ++ [rangeV L (p + n) (-1) (nd - 1)] := by
  simp [cutsV, List.range_succ]
theorem cutsV_len (L : List Int) (nd : Nat) (p : Int) (n : Nat) : (cutsV L nd p n).length = n := by simp [cutsV]
def planV (L : List Int) (p : Int) (nd n : Nat) : List Int × Int :=
  if nextV L (p + n) 12 == 0 then (cutsV L nd p n ++ [pickV L (p + n + 1) [0, -2, nd]], p + n + 1 + 1) else (cutsV L nd p n, p + n + 1)
set_option maxRecDepth 100000 in
set_option maxHeartbeats 4000000 in
theorem eqI_pc (a b : List Int) (ha : a.length ≤ 1000000) (hb : b.length ≤ 1000000) : PCp 21 [.c (.lst 1 (a.map encI)), .c (.lst 1 (b.map encI))] [] (.c (.bool (decide (a = b)))) [] := by
  have hla : (a.map encI).length = a.length := List.length_map ..
  have hlb : (b.map encI).length = b.length := List.length_map ..
  refine fn_sound (mt := mts) tab_fits tab_mixed Tryz.func21 (by rfl) (by kernel_rfl) (by kernel_rfl) Tryz.results21 (Nat.le_of_ble_eq_true (by kernel_rfl)) ?_
  conv => whnf
  repeat' (first
    | (refine Split.mk (fun h => ?_) (fun h => ?_) <;> (try simp only [decide_eq_true_eq, decide_eq_false_iff_not, Bool.not_eq_true', Bool.not_eq_false', beq_iff_eq, beq_eq_false_iff_ne] at h) <;> (first | (exfalso; first | omega | exact h trivial) | (conv => whnf)))
    | (refine CondG.mk (fun h => ?_) (fun h => ?_) <;> (try simp only [decide_eq_true_eq, decide_eq_false_iff_not, Bool.not_eq_true', Bool.not_eq_false', beq_iff_eq, beq_eq_false_iff_ne] at h) <;> (first | (exfalso; first | omega | exact h trivial) | (conv => whnf)))
    | (refine Ask.mk (by first | omega | (unfold roomOK; simp [cutRows]; done) | (unfold roomOK; simp [cutRows]; omega)) ?_; conv => whnf)
    | (refine SliceG.fr ?_; conv => whnf)
    | fail)
  · exact finb (by rw [eq_comm, decide_eq_false_iff_not]; intro e; subst e; simp at h)
  have hl : a.length = b.length := by simp at h; omega
  refine loop_count (a.length) [] [0, 1, 12, 13] (fun k (_ : Unit) => ⟨[(0, .c (.lst 1 (a.map encI))), (1, .c (.lst 1 (b.map encI))), (12, .c (.int .i64 (a.map encI).length)), (13, .c (.int .i64 k))], [], 0⟩) (fun k (_ : Unit) => a.take k = b.take k) (()) ?_ ?_ ?_
  · conv => whnf
    exact ⟨rfl, rfl⟩
  · intro k _ hk hi
    conv => whnf
    repeat' (first
      | (refine Split.mk (fun h => ?_) (fun h => ?_) <;> (try simp only [decide_eq_true_eq, decide_eq_false_iff_not, Bool.not_eq_true', Bool.not_eq_false', beq_iff_eq, beq_eq_false_iff_ne] at h) <;> (first | (exfalso; first | omega | exact h trivial) | (conv => whnf)))
      | (refine CondG.mk (fun h => ?_) (fun h => ?_) <;> (try simp only [decide_eq_true_eq, decide_eq_false_iff_not, Bool.not_eq_true', Bool.not_eq_false', beq_iff_eq, beq_eq_false_iff_ne] at h) <;> (first | (exfalso; first | omega | exact h trivial) | (conv => whnf)))
      | (refine Ask.mk (by first | omega | (unfold roomOK; simp [cutRows]; done) | (unfold roomOK; simp [cutRows]; omega)) ?_; conv => whnf)
      | (refine SliceG.fr ?_; conv => whnf)
      | fail)
    refine idx_map k hk rfl ?_
    conv => whnf
    refine idx_map k (by omega) rfl ?_
    conv => whnf
    repeat' (first
      | (refine Split.mk (fun h => ?_) (fun h => ?_) <;> (try simp only [decide_eq_true_eq, decide_eq_false_iff_not, Bool.not_eq_true', Bool.not_eq_false', beq_iff_eq, beq_eq_false_iff_ne] at h) <;> (first | (exfalso; first | omega | exact h trivial) | (conv => whnf)))
      | (refine CondG.mk (fun h => ?_) (fun h => ?_) <;> (try simp only [decide_eq_true_eq, decide_eq_false_iff_not, Bool.not_eq_true', Bool.not_eq_false', beq_iff_eq, beq_eq_false_iff_ne] at h) <;> (first | (exfalso; first | omega | exact h trivial) | (conv => whnf)))
      | (refine Ask.mk (by first | omega | (unfold roomOK; simp [cutRows]; done) | (unfold roomOK; simp [cutRows]; omega)) ?_; conv => whnf)
      | (refine SliceG.fr ?_; conv => whnf)
      | fail)
    · exact finb (by rw [eq_comm, decide_eq_false_iff_not]; intro e; subst e; simp at h)
    · refine count_next () hk (by rw [wrap_succ hk (by omega)]; rfl) ?_
      rw [List.take_succ_eq_append_getElem hk, List.take_succ_eq_append_getElem (by omega), hi, show a[k] = b[k] by simpa using h]
  · intro _ hi
    conv => whnf
    repeat' (first
      | (refine Split.mk (fun h => ?_) (fun h => ?_) <;> (try simp only [decide_eq_true_eq, decide_eq_false_iff_not, Bool.not_eq_true', Bool.not_eq_false', beq_iff_eq, beq_eq_false_iff_ne] at h) <;> (first | (exfalso; first | omega | exact h trivial) | (conv => whnf)))
      | (refine CondG.mk (fun h => ?_) (fun h => ?_) <;> (try simp only [decide_eq_true_eq, decide_eq_false_iff_not, Bool.not_eq_true', Bool.not_eq_false', beq_iff_eq, beq_eq_false_iff_ne] at h) <;> (first | (exfalso; first | omega | exact h trivial) | (conv => whnf)))
      | (refine Ask.mk (by first | omega | (unfold roomOK; simp [cutRows]; done) | (unfold roomOK; simp [cutRows]; omega)) ?_; conv => whnf)
      | (refine SliceG.fr ?_; conv => whnf)
      | fail)
    exact finb (by
      rw [List.take_length, hl, List.take_length] at hi
      simp [hi])
end Go.Proofs.YtmdcgimpgoacdaaGreatDoor

/- Acts in a store, by the abstract walk. -/
namespace Go.Proofs.YtmdcgimpgoacdaaGreatDoor
set_option linter.unusedVariables false
set_option linter.unusedSimpArgs false
open Abs

structure Ac where
  mo : Int
  kd : Int
  drum : ByteArray
  ty : ByteArray
  of : ByteArray
  long : Int
def encAc (x : Ac) : List V := [.int .i64 x.mo, .int .i64 x.kd, .str x.drum, .str x.ty, .str x.of, .int .i64 x.long]
def momB (n : Int) : Bool := decide (0 ≤ n ∧ n ≤ 345686399999)
set_option maxRecDepth 100000 in
set_option maxHeartbeats 4000000 in
theorem bMoment_pc (n : Int) : PCp 87 [.c (.int .i64 n)] [] (.c (.bool (momB n))) [] := by
  refine fn_sound (mt := mts) tab_fits tab_mixed Tryz.func87 (by rfl) (by kernel_rfl) (by kernel_rfl) Tryz.results87 (Nat.le_of_ble_eq_true (by kernel_rfl)) ?_
  conv => whnf
  repeat' (first
    | (refine Split.mk (fun h => ?_) (fun h => ?_) <;> (try simp only [decide_eq_true_eq, decide_eq_false_iff_not, Bool.not_eq_true', Bool.not_eq_false', beq_iff_eq, beq_eq_false_iff_ne] at h) <;> (first | (exfalso; first | omega | exact h trivial) | (conv => whnf)))
    | (refine CondG.mk (fun h => ?_) (fun h => ?_) <;> (try simp only [decide_eq_true_eq, decide_eq_false_iff_not, Bool.not_eq_true', Bool.not_eq_false', beq_iff_eq, beq_eq_false_iff_ne] at h) <;> (first | (exfalso; first | omega | exact h trivial) | (conv => whnf)))
    | (refine CallX.mk _ _ (by first | exact bOut_pc _ _ _) ?_; conv => whnf)
    | (refine CallG.mk _ _ (by first | exact bOut_pc _ _ _) ?_; conv => whnf)
    | (refine Ask.mk (by first | omega | (unfold roomOK; simp [cutRows]; done) | (unfold roomOK; simp [cutRows]; omega)) ?_; conv => whnf)
    | (refine SliceG.fr ?_; conv => whnf)
    | fail)
  exact finb (by unfold momB; rw [Bool.eq_iff_iff]; simp; try omega)
def actErr (x : Ac) : Int :=
  if !momB x.mo then 1 else if x.kd < 1 ∨ 4 < x.kd then 4
  else if !keyB x.drum || (x.kd == 1 && !keyB x.ty) || (x.kd == 3 && !keyB x.of) then 5
  else if x.kd ≠ 4 ∧ (x.long < 1 ∨ 200000 < x.long) then 1
  else if (x.kd ≠ 1 ∧ x.ty.toList ≠ (⟨#[]⟩ : ByteArray).toList) ∨ (x.kd ≠ 3 ∧ x.of.toList ≠ (⟨#[]⟩ : ByteArray).toList) ∨ (x.kd = 4 ∧ x.long ≠ 0) then 3 else 0
set_option maxRecDepth 100000 in
set_option maxHeartbeats 4000000 in
theorem dActFault_pc (x : Ac) : PCp 60 [.agg (encAc x)] [] (.c (.int .i64 (actErr x))) [] := by
  refine fn_sound (mt := mts) tab_fits tab_mixed Tryz.func60 (by rfl) (by kernel_rfl) (by kernel_rfl) Tryz.results60 (Nat.le_of_ble_eq_true (by kernel_rfl)) ?_
  conv => whnf
  repeat' (first
    | (refine Split.mk (fun h => ?_) (fun h => ?_) <;> (try simp only [decide_eq_true_eq, decide_eq_false_iff_not, Bool.not_eq_true', Bool.not_eq_false', beq_iff_eq, beq_eq_false_iff_ne] at h) <;> (first | (exfalso; first | omega | exact h trivial) | (conv => whnf)))
    | (refine CondG.mk (fun h => ?_) (fun h => ?_) <;> (try simp only [decide_eq_true_eq, decide_eq_false_iff_not, Bool.not_eq_true', Bool.not_eq_false', beq_iff_eq, beq_eq_false_iff_ne] at h) <;> (first | (exfalso; first | omega | exact h trivial) | (conv => whnf)))
    | (refine CallX.mk _ _ (by first | exact bMoment_pc _ | exact bOut_pc _ _ _ | exact bKey_pc _) ?_; conv => whnf)
    | (refine CallG.mk _ _ (by first | exact bMoment_pc _ | exact bOut_pc _ _ _ | exact bKey_pc _) ?_; conv => whnf)
    | (refine Ask.mk (by first | omega | (unfold roomOK; simp [cutRows]; done) | (unfold roomOK; simp [cutRows]; omega)) ?_; conv => whnf)
    | (refine SliceG.fr ?_; conv => whnf)
    | fail)
  all_goals refine fini ?_
  all_goals unfold actErr
  all_goals generalize (⟨#[]⟩ : ByteArray).toList = nl at *
  all_goals simp_all
  all_goals omega
def cmpI (a b : Int) : Int := if a < b then -1 else if b < a then 1 else 0
set_option maxRecDepth 100000 in
set_option maxHeartbeats 4000000 in
theorem isNaNI_pc (a : Int) : PCp 103 [.c (.int .i64 a)] [] (.c (.bool false)) [] := by
  refine fn_sound (mt := mts) tab_fits tab_mixed Tryz.func103 (by rfl) (by kernel_rfl) (by kernel_rfl) Tryz.results103 (Nat.le_of_ble_eq_true (by kernel_rfl)) ?_
  conv => whnf
  exact finb (by simp)
set_option maxRecDepth 100000 in
set_option maxHeartbeats 4000000 in
theorem cmpI_pc (a b : Int) : PCp 71 [.c (.int .i64 a), .c (.int .i64 b)] [] (.c (.int .i64 (cmpI a b))) [] := by
  refine fn_sound (mt := mts) tab_fits tab_mixed Tryz.func71 (by rfl) (by kernel_rfl) (by kernel_rfl) Tryz.results71 (Nat.le_of_ble_eq_true (by kernel_rfl)) ?_
  conv => whnf
  repeat' (first
    | (refine Split.mk (fun h => ?_) (fun h => ?_) <;> (try simp only [decide_eq_true_eq, decide_eq_false_iff_not, Bool.not_eq_true', Bool.not_eq_false', beq_iff_eq, beq_eq_false_iff_ne] at h) <;> (first | (exfalso; first | omega | exact h trivial) | (conv => whnf)))
    | (refine CondG.mk (fun h => ?_) (fun h => ?_) <;> (try simp only [decide_eq_true_eq, decide_eq_false_iff_not, Bool.not_eq_true', Bool.not_eq_false', beq_iff_eq, beq_eq_false_iff_ne] at h) <;> (first | (exfalso; first | omega | exact h trivial) | (conv => whnf)))
    | (refine CallX.mk _ _ (by first | exact isNaNI_pc _) ?_; conv => whnf)
    | (refine CallG.mk _ _ (by first | exact isNaNI_pc _) ?_; conv => whnf)
    | (refine Ask.mk (by first | omega | (unfold roomOK; simp [cutRows]; done) | (unfold roomOK; simp [cutRows]; omega)) ?_; conv => whnf)
    | (refine SliceG.fr ?_; conv => whnf)
    | fail)
  all_goals exact fini (by simp_all [cmpI] <;> omega)
set_option maxRecDepth 100000 in
set_option maxHeartbeats 4000000 in
theorem orI_pc (l : List Int) (hl : l.length ≤ 1000000) : PCp 70 [.c (.lst 1 (l.map encI))] [] (.c (.int .i64 (firstErr l))) [] := by
  have hlm : (l.map encI).length = l.length := List.length_map ..
  refine fn_sound (mt := mts) tab_fits tab_mixed Tryz.func70 (by rfl) (by kernel_rfl) (by kernel_rfl) Tryz.results70 (Nat.le_of_ble_eq_true (by kernel_rfl)) ?_
  conv => whnf
  refine loop_count (l.length) [] [3, 6, 7, 8] (fun k (_ : Unit) => ⟨[(3, .c (.int .i64 0)), (6, .c (.lst 1 (l.map encI))), (7, .c (.int .i64 (l.map encI).length)), (8, .c (.int .i64 k))], [], 0⟩) (fun k (_ : Unit) => firstErr (l.drop k) = firstErr l) (()) ?_ ?_ ?_
  · conv => whnf
    exact ⟨rfl, rfl⟩
  · intro k _ hk hi
    rw [drop_cons hk, firstErr] at hi
    conv => whnf
    repeat' (first
      | (refine Split.mk (fun h => ?_) (fun h => ?_) <;> (try simp only [decide_eq_true_eq, decide_eq_false_iff_not, Bool.not_eq_true', Bool.not_eq_false', beq_iff_eq, beq_eq_false_iff_ne] at h) <;> (first | (exfalso; first | omega | exact h trivial) | (conv => whnf)))
      | (refine CondG.mk (fun h => ?_) (fun h => ?_) <;> (try simp only [decide_eq_true_eq, decide_eq_false_iff_not, Bool.not_eq_true', Bool.not_eq_false', beq_iff_eq, beq_eq_false_iff_ne] at h) <;> (first | (exfalso; first | omega | exact h trivial) | (conv => whnf)))
      | (refine Ask.mk (by first | omega | (unfold roomOK; simp [cutRows]; done) | (unfold roomOK; simp [cutRows]; omega)) ?_; conv => whnf)
      | (refine SliceG.fr ?_; conv => whnf)
      | fail)
    refine idx_map k hk rfl ?_
    conv => whnf
    repeat' (first
      | (refine Split.mk (fun h => ?_) (fun h => ?_) <;> (try simp only [decide_eq_true_eq, decide_eq_false_iff_not, Bool.not_eq_true', Bool.not_eq_false', beq_iff_eq, beq_eq_false_iff_ne] at h) <;> (first | (exfalso; first | omega | exact h trivial) | (conv => whnf)))
      | (refine CondG.mk (fun h => ?_) (fun h => ?_) <;> (try simp only [decide_eq_true_eq, decide_eq_false_iff_not, Bool.not_eq_true', Bool.not_eq_false', beq_iff_eq, beq_eq_false_iff_ne] at h) <;> (first | (exfalso; first | omega | exact h trivial) | (conv => whnf)))
      | (refine Ask.mk (by first | omega | (unfold roomOK; simp [cutRows]; done) | (unfold roomOK; simp [cutRows]; omega)) ?_; conv => whnf)
      | (refine SliceG.fr ?_; conv => whnf)
      | fail)
    · exact fini (by rw [← hi, if_neg (by simpa using h)])
    · refine count_next () hk (by rw [wrap_succ hk (by omega)]; rfl) ?_
      rw [← hi, if_pos (by simpa using h)]
  · intro _ hi
    rw [List.drop_of_length_le (Nat.le_refl _)] at hi
    conv => whnf
    repeat' (first
      | (refine Split.mk (fun h => ?_) (fun h => ?_) <;> (try simp only [decide_eq_true_eq, decide_eq_false_iff_not, Bool.not_eq_true', Bool.not_eq_false', beq_iff_eq, beq_eq_false_iff_ne] at h) <;> (first | (exfalso; first | omega | exact h trivial) | (conv => whnf)))
      | (refine CondG.mk (fun h => ?_) (fun h => ?_) <;> (try simp only [decide_eq_true_eq, decide_eq_false_iff_not, Bool.not_eq_true', Bool.not_eq_false', beq_iff_eq, beq_eq_false_iff_ne] at h) <;> (first | (exfalso; first | omega | exact h trivial) | (conv => whnf)))
      | (refine Ask.mk (by first | omega | (unfold roomOK; simp [cutRows]; done) | (unfold roomOK; simp [cutRows]; omega)) ?_; conv => whnf)
      | (refine SliceG.fr ?_; conv => whnf)
      | fail)
    exact fini (by rw [← hi]; rfl)
def timeC (a b : Ac) : Int := firstErr [cmpI a.mo b.mo, cmpS a.drum b.drum, cmpI a.kd b.kd, cmpS a.ty b.ty, cmpS a.of b.of, cmpI a.long b.long]
set_option maxRecDepth 100000 in
set_option maxHeartbeats 4000000 in
theorem byTime_pc (a b : Ac) : PCp 46 [.agg (encAc a), .agg (encAc b)] [] (.c (.int .i64 (timeC a b))) [] := by
  refine fn_sound (mt := mts) tab_fits tab_mixed Tryz.func46 (by rfl) (by kernel_rfl) (by kernel_rfl) Tryz.results46 (Nat.le_of_ble_eq_true (by kernel_rfl)) ?_
  conv => whnf
  repeat' (first
    | (refine Split.mk (fun h => ?_) (fun h => ?_) <;> (try simp only [decide_eq_true_eq, decide_eq_false_iff_not, Bool.not_eq_true', Bool.not_eq_false', beq_iff_eq, beq_eq_false_iff_ne] at h) <;> (first | (exfalso; first | omega | exact h trivial) | (conv => whnf)))
    | (refine CondG.mk (fun h => ?_) (fun h => ?_) <;> (try simp only [decide_eq_true_eq, decide_eq_false_iff_not, Bool.not_eq_true', Bool.not_eq_false', beq_iff_eq, beq_eq_false_iff_ne] at h) <;> (first | (exfalso; first | omega | exact h trivial) | (conv => whnf)))
    | (refine CallX.mk _ _ (by first | exact cmpI_pc _ _ | exact sCompare_pc _ _ | exact orI_pc [cmpI a.mo b.mo, cmpS a.drum b.drum, cmpI a.kd b.kd, cmpS a.ty b.ty, cmpS a.of b.of, cmpI a.long b.long] (by simp)) ?_; conv => whnf)
    | (refine CallG.mk _ _ (by first | exact cmpI_pc _ _ | exact sCompare_pc _ _ | exact orI_pc [cmpI a.mo b.mo, cmpS a.drum b.drum, cmpI a.kd b.kd, cmpS a.ty b.ty, cmpS a.of b.of, cmpI a.long b.long] (by simp)) ?_; conv => whnf)
    | (refine Ask.mk (by first | omega | (unfold roomOK; simp [cutRows]; done) | (unfold roomOK; simp [cutRows]; omega)) ?_; conv => whnf)
    | (refine SliceG.fr ?_; conv => whnf)
    | fail)
  exact fini rfl
def badPrev (p : Option Ac) (x : Ac) : Bool := match p with | none => false | some y => decide (timeC x y ≤ 0)
def actsErr : Option Ac → List Ac → Int
  | _, [] => 0
  | p, x :: r => if actErr x ≠ 0 then actErr x else if badPrev p x = true then 7 else actsErr (some x) r
def prevAt (l : List Ac) (k : Nat) : Option Ac := if k = 0 then none else l[k - 1]?
def actsFault (l : List Ac) : Int := if 2000 < l.length then 2 else actsErr none l
set_option maxRecDepth 100000 in
set_option maxHeartbeats 4000000 in
theorem checkActs_pc (l : List Ac) : PCp 19 [.c (.lst 6 (l.map encAc))] [] (.c (.int .i64 (actsFault l))) [] := by
  have hlm : (l.map encAc).length = l.length := List.length_map ..
  refine fn_sound (mt := mts) tab_fits tab_mixed Tryz.func19 (by rfl) (by kernel_rfl) (by kernel_rfl) Tryz.results19 (Nat.le_of_ble_eq_true (by kernel_rfl)) ?_
  conv => whnf
  repeat' (first
    | (refine Split.mk (fun h => ?_) (fun h => ?_) <;> (try simp only [decide_eq_true_eq, decide_eq_false_iff_not, Bool.not_eq_true', Bool.not_eq_false', beq_iff_eq, beq_eq_false_iff_ne] at h) <;> (first | (exfalso; first | omega | exact h trivial) | (conv => whnf)))
    | (refine CondG.mk (fun h => ?_) (fun h => ?_) <;> (try simp only [decide_eq_true_eq, decide_eq_false_iff_not, Bool.not_eq_true', Bool.not_eq_false', beq_iff_eq, beq_eq_false_iff_ne] at h) <;> (first | (exfalso; first | omega | exact h trivial) | (conv => whnf)))
    | (refine Ask.mk (by first | omega | (unfold roomOK; simp [cutRows]; done) | (unfold roomOK; simp [cutRows]; omega)) ?_; conv => whnf)
    | (refine SliceG.fr ?_; conv => whnf)
    | fail)
  · exact fini (by rw [actsFault, if_pos (by omega)])
  have hF : actsFault l = actsErr none l := by rw [actsFault, if_neg (by omega)]
  refine loop_count (l.length) [] [0, 9, 10, 11] (fun k (_ : Unit) => ⟨[(0, .c (.lst 6 (l.map encAc))), (9, .c (.lst 6 (l.map encAc))), (10, .c (.int .i64 (l.map encAc).length)), (11, .c (.int .i64 k))], [], 0⟩) (fun k (_ : Unit) => actsErr (prevAt l k) (l.drop k) = actsErr none l) (()) ?_ ?_ ?_
  · conv => whnf
    exact ⟨rfl, rfl⟩
  · intro k _ hk hi
    rw [drop_cons hk, actsErr] at hi
    have hp1 : prevAt l (k + 1) = some l[k] := by simp [prevAt, hk]
    conv => whnf
    repeat' (first
      | (refine Split.mk (fun h => ?_) (fun h => ?_) <;> (try simp only [decide_eq_true_eq, decide_eq_false_iff_not, Bool.not_eq_true', Bool.not_eq_false', beq_iff_eq, beq_eq_false_iff_ne] at h) <;> (first | (exfalso; first | omega | exact h trivial) | (conv => whnf)))
      | (refine CondG.mk (fun h => ?_) (fun h => ?_) <;> (try simp only [decide_eq_true_eq, decide_eq_false_iff_not, Bool.not_eq_true', Bool.not_eq_false', beq_iff_eq, beq_eq_false_iff_ne] at h) <;> (first | (exfalso; first | omega | exact h trivial) | (conv => whnf)))
      | (refine Ask.mk (by first | omega | (unfold roomOK; simp [cutRows]; done) | (unfold roomOK; simp [cutRows]; omega)) ?_; conv => whnf)
      | (refine SliceG.fr ?_; conv => whnf)
      | fail)
    refine idx_map k hk rfl ?_
    conv => whnf
    repeat' (first
      | (refine Split.mk (fun h => ?_) (fun h => ?_) <;> (try simp only [decide_eq_true_eq, decide_eq_false_iff_not, Bool.not_eq_true', Bool.not_eq_false', beq_iff_eq, beq_eq_false_iff_ne] at h) <;> (first | (exfalso; first | omega | exact h trivial) | (conv => whnf)))
      | (refine CondG.mk (fun h => ?_) (fun h => ?_) <;> (try simp only [decide_eq_true_eq, decide_eq_false_iff_not, Bool.not_eq_true', Bool.not_eq_false', beq_iff_eq, beq_eq_false_iff_ne] at h) <;> (first | (exfalso; first | omega | exact h trivial) | (conv => whnf)))
      | (refine CallX.mk _ _ (by first | exact dActFault_pc _) ?_; conv => whnf)
      | (refine CallG.mk _ _ (by first | exact dActFault_pc _) ?_; conv => whnf)
      | (refine Ask.mk (by first | omega | (unfold roomOK; simp [cutRows]; done) | (unfold roomOK; simp [cutRows]; omega)) ?_; conv => whnf)
      | (refine SliceG.fr ?_; conv => whnf)
      | fail)
    · have h' : actErr l[k] ≠ 0 := by simpa using h
      rw [if_pos h'] at hi
      exact fini (by rw [hF, ← hi])
    · rename_i h0
      have h' : ¬ actErr l[k] ≠ 0 := by simpa using h0
      rw [if_neg h'] at hi
      have hk1 : IntKind.i64.wrap ((k : Int) - 1) = ((k - 1 : Nat) : Int) := by rw [wrap_in (by omega) (by omega)]; omega
      have hp : prevAt l k = some (l[k - 1]'(by omega)) := by rw [prevAt, if_neg (by omega)]; exact List.getElem?_eq_getElem (by omega)
      rw [hp] at hi
      refine idx_map (k - 1) (by omega) hk1 ?_
      conv => whnf
      repeat' (first
        | (refine Split.mk (fun h => ?_) (fun h => ?_) <;> (try simp only [decide_eq_true_eq, decide_eq_false_iff_not, Bool.not_eq_true', Bool.not_eq_false', beq_iff_eq, beq_eq_false_iff_ne] at h) <;> (first | (exfalso; first | omega | exact h trivial) | (conv => whnf)))
        | (refine CondG.mk (fun h => ?_) (fun h => ?_) <;> (try simp only [decide_eq_true_eq, decide_eq_false_iff_not, Bool.not_eq_true', Bool.not_eq_false', beq_iff_eq, beq_eq_false_iff_ne] at h) <;> (first | (exfalso; first | omega | exact h trivial) | (conv => whnf)))
        | (refine CallX.mk _ _ (by first | exact byTime_pc _ _) ?_; conv => whnf)
        | (refine CallG.mk _ _ (by first | exact byTime_pc _ _) ?_; conv => whnf)
        | (refine Ask.mk (by first | omega | (unfold roomOK; simp [cutRows]; done) | (unfold roomOK; simp [cutRows]; omega)) ?_; conv => whnf)
        | (refine SliceG.fr ?_; conv => whnf)
        | fail)
      · skip
        rw [if_pos (by simpa [badPrev] using h)] at hi
        exact fini (by rw [hF, ← hi])
      · skip
        rw [if_neg (by simpa [badPrev] using h)] at hi
        refine count_next () hk (by rw [wrap_succ hk (by omega)]; rfl) ?_
        rw [hp1]; exact hi
    · have h' : ¬ actErr l[k] ≠ 0 := by simp_all
      have h0 : k = 0 := by omega
      subst h0
      rw [if_neg h', if_neg (by simp [badPrev, prevAt])] at hi
      refine count_next () hk (by rw [wrap_succ hk (by omega)]; rfl) ?_
      rw [hp1]; exact hi
  · intro _ hi
    rw [List.drop_of_length_le (Nat.le_refl _)] at hi
    conv => whnf
    repeat' (first
      | (refine Split.mk (fun h => ?_) (fun h => ?_) <;> (try simp only [decide_eq_true_eq, decide_eq_false_iff_not, Bool.not_eq_true', Bool.not_eq_false', beq_iff_eq, beq_eq_false_iff_ne] at h) <;> (first | (exfalso; first | omega | exact h trivial) | (conv => whnf)))
      | (refine CondG.mk (fun h => ?_) (fun h => ?_) <;> (try simp only [decide_eq_true_eq, decide_eq_false_iff_not, Bool.not_eq_true', Bool.not_eq_false', beq_iff_eq, beq_eq_false_iff_ne] at h) <;> (first | (exfalso; first | omega | exact h trivial) | (conv => whnf)))
      | (refine Ask.mk (by first | omega | (unfold roomOK; simp [cutRows]; done) | (unfold roomOK; simp [cutRows]; omega)) ?_; conv => whnf)
      | (refine SliceG.fr ?_; conv => whnf)
      | fail)
    exact fini (by rw [hF, ← hi]; rfl)

end Go.Proofs.YtmdcgimpgoacdaaGreatDoor

/- A store with one drum, by the abstract walk. -/
namespace Go.Proofs.YtmdcgimpgoacdaaGreatDoor
set_option linter.unusedVariables false
set_option linter.unusedSimpArgs false
open Abs

/-- a first drum comes -/
abbrev stBox : Ob := .box [.mp 1, .mp 2]
set_option maxRecDepth 100000 in
set_option maxHeartbeats 4000000 in
theorem take1_pc (x : Ac) (hk : x.kd = 1) : PCp 86 [.c (.ptr 0 0), .agg (encAc x)] [stBox, .map 0 [], .map 0 []] (.tup [.c (.str x.ty), .c (.int .i64 0)]) [stBox, .map 1 [(0, .c (.str x.drum), .agg [.str x.ty, .int .i64 x.long])], .map 1 [(0, .c (.str x.drum), .c (.str x.ty))]] := by
  refine fn_sound (mt := mts) tab_fits tab_mixed Tryz.func86 (by rfl) (by kernel_rfl) (by kernel_rfl) Tryz.results86 (Nat.le_of_ble_eq_true (by kernel_rfl)) ?_
  conv => whnf
  repeat (refine .mk _ _ (.inr ⟨rfl, rfl, rfl⟩) ?_; conv => whnf)
  repeat' (first
    | (refine Split.mk (fun h => ?_) (fun h => ?_) <;> (try simp only [decide_eq_true_eq, decide_eq_false_iff_not, Bool.not_eq_true', Bool.not_eq_false', beq_iff_eq, beq_eq_false_iff_ne] at h) <;> (first | (exfalso; first | omega | exact h trivial) | (conv => whnf)))
    | (refine CondG.mk (fun h => ?_) (fun h => ?_) <;> (try simp only [decide_eq_true_eq, decide_eq_false_iff_not, Bool.not_eq_true', Bool.not_eq_false', beq_iff_eq, beq_eq_false_iff_ne] at h) <;> (first | (exfalso; first | omega | exact h trivial) | (conv => whnf)))
    | (refine Ask.mk (by first | omega | (unfold roomOK; simp [cutRows]; done) | (unfold roomOK; simp [cutRows]; omega)) ?_; conv => whnf)
    | (refine SliceG.fr ?_; conv => whnf)
    | fail)
  · cases h
  refine .mk _ _ _ _ (.inr ⟨rfl, rfl, rfl, rfl, rfl⟩) ?_
  conv => whnf
  refine .mk 0 0 _ _ ⟨rfl, rfl, by intro i hi; omega⟩ ?_
  conv => whnf
  refine .mk _ _ _ _ (.inr ⟨rfl, rfl, rfl, rfl, rfl⟩) ?_
  conv => whnf
  refine .mk 0 0 _ _ ⟨rfl, rfl, by intro i hi; omega⟩ ?_
  conv => whnf
  exact .mk ⟨rfl, rfl⟩
/-- a store with one drum -/
abbrev stOne (x : Ac) : List Ob := [stBox, .map 1 [(0, .c (.str x.drum), .agg [.str x.ty, .int .i64 x.long])], .map 1 [(0, .c (.str x.drum), .c (.str x.ty))]]
set_option maxRecDepth 100000 in
set_option maxHeartbeats 4000000 in
theorem at1_pc (x : Ac) (a b : Int) (s : ByteArray) : PCp 88 [.c (.ptr 0 0), .c (.int .i64 a), .c (.str s), .c (.int .i64 b)] (stOne x) (.tup []) (stOne x) := by
  refine fn_sound (mt := mts) tab_fits tab_mixed Tryz.func88 (by rfl) (by kernel_rfl) (by kernel_rfl) Tryz.results88 (Nat.le_of_ble_eq_true (by kernel_rfl)) ?_
  conv => whnf
  exact .mk ⟨rfl, rfl⟩
set_option maxRecDepth 100000 in
set_option maxHeartbeats 4000000 in
theorem follow1_pc (x : Ac) (hk : x.kd = 1) : PCp 47 [.c (.lst 6 [encAc x]), .c (.fn 88 [])] [] (.c (.ptr 0 0)) (stOne x) := by
  refine fn_sound (mt := mts) tab_fits tab_mixed Tryz.func47 (by rfl) (by kernel_rfl) (by kernel_rfl) Tryz.results47 (Nat.le_of_ble_eq_true (by kernel_rfl)) ?_
  conv => whnf
  refine .un 2 ?_
  conv => whnf
  repeat' (first
    | (refine Split.mk (fun h => ?_) (fun h => ?_) <;> (try simp only [decide_eq_true_eq, decide_eq_false_iff_not, Bool.not_eq_true', Bool.not_eq_false', beq_iff_eq, beq_eq_false_iff_ne] at h) <;> (first | (exfalso; first | omega | exact h trivial) | (conv => whnf)))
    | (refine CondG.mk (fun h => ?_) (fun h => ?_) <;> (try simp only [decide_eq_true_eq, decide_eq_false_iff_not, Bool.not_eq_true', Bool.not_eq_false', beq_iff_eq, beq_eq_false_iff_ne] at h) <;> (first | (exfalso; first | omega | exact h trivial) | (conv => whnf)))
    | (refine Ask.mk (by first | omega | (unfold roomOK; simp [cutRows]; done) | (unfold roomOK; simp [cutRows]; omega)) ?_; conv => whnf)
    | (refine SliceG.fr ?_; conv => whnf)
    | fail)
  rotate_left
  · exact absurd h (by simp)
  refine .mk (encAc x) ⟨by simp, rfl⟩ ?_
  conv => whnf
  repeat' (first
    | (refine Split.mk (fun h => ?_) (fun h => ?_) <;> (try simp only [decide_eq_true_eq, decide_eq_false_iff_not, Bool.not_eq_true', Bool.not_eq_false', beq_iff_eq, beq_eq_false_iff_ne] at h) <;> (first | (exfalso; first | omega | exact h trivial) | (conv => whnf)))
    | (refine CondG.mk (fun h => ?_) (fun h => ?_) <;> (try simp only [decide_eq_true_eq, decide_eq_false_iff_not, Bool.not_eq_true', Bool.not_eq_false', beq_iff_eq, beq_eq_false_iff_ne] at h) <;> (first | (exfalso; first | omega | exact h trivial) | (conv => whnf)))
    | (refine CallX.mk _ _ (by first | exact take1_pc x hk | exact at1_pc x _ _ _) ?_; conv => whnf)
    | (refine CallG.mk _ _ (by first | exact take1_pc x hk | exact at1_pc x _ _ _) ?_; conv => whnf)
    | (refine Ask.mk (by first | omega | (unfold roomOK; simp [cutRows]; done) | (unfold roomOK; simp [cutRows]; omega)) ?_; conv => whnf)
    | (refine SliceG.fr ?_; conv => whnf)
    | fail)
  · exact absurd h (by show ¬ ((1 : Int) < 1); decide)
  · exact .mk ⟨rfl, rfl⟩
set_option maxRecDepth 100000 in
set_option maxHeartbeats 4000000 in
theorem at_pc (x : Ac) (hk : x.kd = 1) (hx : actErr x = 0) (m : Int) (hm : x.mo ≤ m) (hmm : momB m = true) : PCp 49 [.c (.lst 6 [encAc x]), .c (.int .i64 m)] [] (.tup [.c (.ptr 0 0), .c (.int .i64 0)]) (stOne x) := by
  have hc : actsFault [x] = 0 := by simp [actsFault, actsErr, hx, badPrev]
  refine fn_sound (mt := mts) tab_fits tab_mixed Tryz.func49 (by rfl) (by kernel_rfl) (by kernel_rfl) Tryz.results49 (Nat.le_of_ble_eq_true (by kernel_rfl)) ?_
  conv => whnf
  repeat' (first
    | (refine Split.mk (fun h => ?_) (fun h => ?_) <;> (try simp only [decide_eq_true_eq, decide_eq_false_iff_not, Bool.not_eq_true', Bool.not_eq_false', beq_iff_eq, beq_eq_false_iff_ne] at h) <;> (first | (exfalso; first | omega | exact h trivial) | (conv => whnf)))
    | (refine CondG.mk (fun h => ?_) (fun h => ?_) <;> (try simp only [decide_eq_true_eq, decide_eq_false_iff_not, Bool.not_eq_true', Bool.not_eq_false', beq_iff_eq, beq_eq_false_iff_ne] at h) <;> (first | (exfalso; first | omega | exact h trivial) | (conv => whnf)))
    | (refine CallX.mk _ _ (by first | exact checkActs_pc [x] | exact bMoment_pc _) ?_; conv => whnf)
    | (refine CallG.mk _ _ (by first | exact checkActs_pc [x] | exact bMoment_pc _) ?_; conv => whnf)
    | (refine Ask.mk (by first | omega | (unfold roomOK; simp [cutRows]; done) | (unfold roomOK; simp [cutRows]; omega)) ?_; conv => whnf)
    | (refine SliceG.fr ?_; conv => whnf)
    | fail)
  · rw [hc] at h; cases h
  · rw [hmm] at h; cases h
  refine .un 1 ?_
  conv => whnf
  repeat' (first
    | (refine Split.mk (fun h => ?_) (fun h => ?_) <;> (try simp only [decide_eq_true_eq, decide_eq_false_iff_not, Bool.not_eq_true', Bool.not_eq_false', beq_iff_eq, beq_eq_false_iff_ne] at h) <;> (first | (exfalso; first | omega | exact h trivial) | (conv => whnf)))
    | (refine CondG.mk (fun h => ?_) (fun h => ?_) <;> (try simp only [decide_eq_true_eq, decide_eq_false_iff_not, Bool.not_eq_true', Bool.not_eq_false', beq_iff_eq, beq_eq_false_iff_ne] at h) <;> (first | (exfalso; first | omega | exact h trivial) | (conv => whnf)))
    | (refine Ask.mk (by first | omega | (unfold roomOK; simp [cutRows]; done) | (unfold roomOK; simp [cutRows]; omega)) ?_; conv => whnf)
    | (refine SliceG.fr ?_; conv => whnf)
    | fail)
  · refine .mk (encAc x) ⟨by show (0 : Int) ≤ 0; decide, rfl⟩ ?_
    conv => whnf
    repeat' (first
      | (refine Split.mk (fun h => ?_) (fun h => ?_) <;> (try simp only [decide_eq_true_eq, decide_eq_false_iff_not, Bool.not_eq_true', Bool.not_eq_false', beq_iff_eq, beq_eq_false_iff_ne] at h) <;> (first | (exfalso; first | omega | exact h trivial) | (conv => whnf)))
      | (refine CondG.mk (fun h => ?_) (fun h => ?_) <;> (try simp only [decide_eq_true_eq, decide_eq_false_iff_not, Bool.not_eq_true', Bool.not_eq_false', beq_iff_eq, beq_eq_false_iff_ne] at h) <;> (first | (exfalso; first | omega | exact h trivial) | (conv => whnf)))
      | (refine CallX.mk _ _ (by first | exact follow1_pc x hk) ?_; conv => whnf)
      | (refine CallG.mk _ _ (by first | exact follow1_pc x hk) ?_; conv => whnf)
      | (refine Ask.mk (by first | omega | (unfold roomOK; simp [cutRows]; done) | (unfold roomOK; simp [cutRows]; omega)) ?_; conv => whnf)
      | (refine SliceG.fr ?_; conv => whnf)
      | fail)
    exact .mk ⟨rfl, rfl⟩
  · exact absurd (by simp) h

end Go.Proofs.YtmdcgimpgoacdaaGreatDoor

/- A list of one drum is sorted. -/
namespace Go.Proofs.YtmdcgimpgoacdaaGreatDoor
set_option linter.unusedVariables false
set_option linter.unusedSimpArgs false
open Abs

set_option maxRecDepth 100000 in
set_option maxHeartbeats 4000000 in
theorem len64_pc : PCp 124 [.c (.int .u64 1)] [] (.c (.int .i64 1)) [] := by
  refine fn_sound (mt := mts) tab_fits tab_mixed Tryz.func124 (by rfl) (by kernel_rfl) (by kernel_rfl) Tryz.results124 (Nat.le_of_ble_eq_true (by kernel_rfl)) ?_
  conv => whnf
  repeat' (first
    | (refine Split.mk (fun h => ?_) (fun h => ?_) <;> (try simp only [decide_eq_true_eq, decide_eq_false_iff_not, Bool.not_eq_true', Bool.not_eq_false', beq_iff_eq, beq_eq_false_iff_ne] at h) <;> (first | (exfalso; first | omega | exact h trivial) | (conv => whnf)))
    | (refine CondG.mk (fun h => ?_) (fun h => ?_) <;> (try simp only [decide_eq_true_eq, decide_eq_false_iff_not, Bool.not_eq_true', Bool.not_eq_false', beq_iff_eq, beq_eq_false_iff_ne] at h) <;> (first | (exfalso; first | omega | exact h trivial) | (conv => whnf)))
    | (refine Ask.mk (by first | omega | (unfold roomOK; simp [cutRows]; done) | (unfold roomOK; simp [cutRows]; omega)) ?_; conv => whnf)
    | (refine SliceG.fr ?_; conv => whnf)
    | fail)
  all_goals first | (exfalso; revert h; decide) | skip
  refine .mk (by decide +kernel) ?_
  conv => whnf
  exact fini (by decide +kernel)
set_option maxRecDepth 100000 in
set_option maxHeartbeats 4000000 in
theorem len_pc : PCp 90 [.c (.int .u64 1)] [] (.c (.int .i64 1)) [] := by
  refine fn_sound (mt := mts) tab_fits tab_mixed Tryz.func90 (by rfl) (by kernel_rfl) (by kernel_rfl) Tryz.results90 (Nat.le_of_ble_eq_true (by kernel_rfl)) ?_
  conv => whnf
  repeat' (first
    | (refine Split.mk (fun h => ?_) (fun h => ?_) <;> (try simp only [decide_eq_true_eq, decide_eq_false_iff_not, Bool.not_eq_true', Bool.not_eq_false', beq_iff_eq, beq_eq_false_iff_ne] at h) <;> (first | (exfalso; first | omega | exact h trivial) | (conv => whnf)))
    | (refine CondG.mk (fun h => ?_) (fun h => ?_) <;> (try simp only [decide_eq_true_eq, decide_eq_false_iff_not, Bool.not_eq_true', Bool.not_eq_false', beq_iff_eq, beq_eq_false_iff_ne] at h) <;> (first | (exfalso; first | omega | exact h trivial) | (conv => whnf)))
    | (refine CallX.mk _ _ (by first | exact len64_pc) ?_; conv => whnf)
    | (refine CallG.mk _ _ (by first | exact len64_pc) ?_; conv => whnf)
    | (refine Ask.mk (by first | omega | (unfold roomOK; simp [cutRows]; done) | (unfold roomOK; simp [cutRows]; omega)) ?_; conv => whnf)
    | (refine SliceG.fr ?_; conv => whnf)
    | fail)
  exact fini rfl
set_option maxRecDepth 100000 in
set_option maxHeartbeats 4000000 in
theorem ins1_pc (r : List V) (g : Nat) : PCp 115 [.c (.row 0), .c (.int .i64 0), .c (.int .i64 1), .c (.fn g [])] [.row 56 3 [r]] (.tup []) [.row 56 3 [r]] := by
  refine fn_sound (mt := mts) tab_fits tab_mixed Tryz.func115 (by rfl) (by kernel_rfl) (by kernel_rfl) Tryz.results115 (Nat.le_of_ble_eq_true (by kernel_rfl)) ?_
  conv => whnf
  refine .un 1 ?_
  conv => whnf
  repeat' (first
    | (refine Split.mk (fun h => ?_) (fun h => ?_) <;> (try simp only [decide_eq_true_eq, decide_eq_false_iff_not, Bool.not_eq_true', Bool.not_eq_false', beq_iff_eq, beq_eq_false_iff_ne] at h) <;> (first | (exfalso; first | omega | exact h trivial) | (conv => whnf)))
    | (refine CondG.mk (fun h => ?_) (fun h => ?_) <;> (try simp only [decide_eq_true_eq, decide_eq_false_iff_not, Bool.not_eq_true', Bool.not_eq_false', beq_iff_eq, beq_eq_false_iff_ne] at h) <;> (first | (exfalso; first | omega | exact h trivial) | (conv => whnf)))
    | (refine Ask.mk (by first | omega | (unfold roomOK; simp [cutRows]; done) | (unfold roomOK; simp [cutRows]; omega)) ?_; conv => whnf)
    | (refine SliceG.fr ?_; conv => whnf)
    | fail)
  all_goals first | exact .mk ⟨rfl, rfl⟩ | (exfalso; revert h; decide)
set_option maxRecDepth 100000 in
set_option maxHeartbeats 4000000 in
theorem pdq1_pc (r : List V) (g : Nat) : PCp 89 [.c (.row 0), .c (.int .i64 0), .c (.int .i64 1), .c (.int .i64 1), .c (.fn g [])] [.row 56 3 [r]] (.tup []) [.row 56 3 [r]] := by
  refine fn_sound (mt := mts) tab_fits tab_mixed Tryz.func89 (by rfl) (by kernel_rfl) (by kernel_rfl) Tryz.results89 (Nat.le_of_ble_eq_true (by kernel_rfl)) ?_
  conv => whnf
  refine .un 1 ?_
  conv => whnf
  repeat' (first
    | (refine Split.mk (fun h => ?_) (fun h => ?_) <;> (try simp only [decide_eq_true_eq, decide_eq_false_iff_not, Bool.not_eq_true', Bool.not_eq_false', beq_iff_eq, beq_eq_false_iff_ne] at h) <;> (first | (exfalso; first | omega | exact h trivial) | (conv => whnf)))
    | (refine CondG.mk (fun h => ?_) (fun h => ?_) <;> (try simp only [decide_eq_true_eq, decide_eq_false_iff_not, Bool.not_eq_true', Bool.not_eq_false', beq_iff_eq, beq_eq_false_iff_ne] at h) <;> (first | (exfalso; first | omega | exact h trivial) | (conv => whnf)))
    | (refine CallX.mk _ _ (by first | exact ins1_pc _ _) ?_; conv => whnf)
    | (refine CallG.mk _ _ (by first | exact ins1_pc _ _) ?_; conv => whnf)
    | (refine Ask.mk (by first | omega | (unfold roomOK; simp [cutRows]; done) | (unfold roomOK; simp [cutRows]; omega)) ?_; conv => whnf)
    | (refine SliceG.fr ?_; conv => whnf)
    | fail)
  all_goals first | exact .mk ⟨rfl, rfl⟩ | (exfalso; revert h; decide) | (exfalso; rename_i h2; revert h2; decide)
set_option maxRecDepth 100000 in
set_option maxHeartbeats 4000000 in
theorem sort1_pc (r : List V) (g : Nat) : PCp 50 [.c (.row 0), .c (.fn g [])] [.row 56 3 [r]] (.tup []) [.row 56 3 [r]] := by
  refine fn_sound (mt := mts) tab_fits tab_mixed Tryz.func50 (by rfl) (by kernel_rfl) (by kernel_rfl) Tryz.results50 (Nat.le_of_ble_eq_true (by kernel_rfl)) ?_
  conv => whnf
  repeat' (first
    | (refine Split.mk (fun h => ?_) (fun h => ?_) <;> (try simp only [decide_eq_true_eq, decide_eq_false_iff_not, Bool.not_eq_true', Bool.not_eq_false', beq_iff_eq, beq_eq_false_iff_ne] at h) <;> (first | (exfalso; first | omega | exact h trivial) | (conv => whnf)))
    | (refine CondG.mk (fun h => ?_) (fun h => ?_) <;> (try simp only [decide_eq_true_eq, decide_eq_false_iff_not, Bool.not_eq_true', Bool.not_eq_false', beq_iff_eq, beq_eq_false_iff_ne] at h) <;> (first | (exfalso; first | omega | exact h trivial) | (conv => whnf)))
    | (refine CallX.mk _ _ (by first | exact len_pc | exact pdq1_pc _ _) ?_; conv => whnf)
    | (refine CallG.mk _ _ (by first | exact len_pc | exact pdq1_pc _ _) ?_; conv => whnf)
    | (refine Ask.mk (by first | omega | (unfold roomOK; simp [cutRows]; done) | (unfold roomOK; simp [cutRows]; omega)) ?_; conv => whnf)
    | (refine SliceG.fr ?_; conv => whnf)
    | fail)
  exact .mk ⟨rfl, rfl⟩
set_option maxRecDepth 100000 in
set_option maxHeartbeats 4000000 in
theorem stock_pc (x : Ac) (hk : x.kd = 1) (hx : actErr x = 0) (m : Int) (hm : x.mo ≤ m) (hmm : momB m = true) : PCp 10 [.c (.lst 6 [encAc x]), .c (.int .i64 m)] [] (.tup [.c (.row 0), .c (.int .i64 0)]) [.row 56 3 [[.str x.drum, .str x.ty, .int .i64 x.long]]] := by
  refine fn_sound (mt := mts) tab_fits tab_mixed Tryz.func10 (by rfl) (by kernel_rfl) (by kernel_rfl) Tryz.results10 (Nat.le_of_ble_eq_true (by kernel_rfl)) ?_
  conv => whnf
  repeat' (first
    | (refine Split.mk (fun h => ?_) (fun h => ?_) <;> (try simp only [decide_eq_true_eq, decide_eq_false_iff_not, Bool.not_eq_true', Bool.not_eq_false', beq_iff_eq, beq_eq_false_iff_ne] at h) <;> (first | (exfalso; first | omega | exact h trivial) | (conv => whnf)))
    | (refine CondG.mk (fun h => ?_) (fun h => ?_) <;> (try simp only [decide_eq_true_eq, decide_eq_false_iff_not, Bool.not_eq_true', Bool.not_eq_false', beq_iff_eq, beq_eq_false_iff_ne] at h) <;> (first | (exfalso; first | omega | exact h trivial) | (conv => whnf)))
    | (refine CallX.mk _ _ (by first | exact at_pc x hk hx m hm hmm) ?_; conv => whnf)
    | (refine CallG.mk _ _ (by first | exact at_pc x hk hx m hm hmm) ?_; conv => whnf)
    | (refine Ask.mk (by first | omega | (unfold roomOK; simp [cutRows]; done) | (unfold roomOK; simp [cutRows]; omega)) ?_; conv => whnf)
    | (refine SliceG.fr ?_; conv => whnf)
    | fail)
  · cases h
  refine .un 2 ?_
  conv => whnf
  refine .mk rfl ?_
  conv => whnf
  refine .mk (α := Nat × S × S) (fun e => e) [(0, .c (.str x.drum), .agg [.str x.ty, .int .i64 x.long])] rfl (by intro h; cases h) ?_
  intro e he
  simp only [List.mem_singleton] at he
  subst he
  conv => whnf
  repeat' (first
    | (refine Split.mk (fun h => ?_) (fun h => ?_) <;> (try simp only [decide_eq_true_eq, decide_eq_false_iff_not, Bool.not_eq_true', Bool.not_eq_false', beq_iff_eq, beq_eq_false_iff_ne] at h) <;> (first | (exfalso; first | omega | exact h trivial) | (conv => whnf)))
    | (refine CondG.mk (fun h => ?_) (fun h => ?_) <;> (try simp only [decide_eq_true_eq, decide_eq_false_iff_not, Bool.not_eq_true', Bool.not_eq_false', beq_iff_eq, beq_eq_false_iff_ne] at h) <;> (first | (exfalso; first | omega | exact h trivial) | (conv => whnf)))
    | (refine Ask.mk (by first | omega | (unfold roomOK; simp [cutRows]; done) | (unfold roomOK; simp [cutRows]; omega)) ?_; conv => whnf)
    | (refine SliceG.fr ?_; conv => whnf)
    | fail)
  refine .mk _ _ rfl ?_
  conv => whnf
  repeat' (first
    | (refine Split.mk (fun h => ?_) (fun h => ?_) <;> (try simp only [decide_eq_true_eq, decide_eq_false_iff_not, Bool.not_eq_true', Bool.not_eq_false', beq_iff_eq, beq_eq_false_iff_ne] at h) <;> (first | (exfalso; first | omega | exact h trivial) | (conv => whnf)))
    | (refine CondG.mk (fun h => ?_) (fun h => ?_) <;> (try simp only [decide_eq_true_eq, decide_eq_false_iff_not, Bool.not_eq_true', Bool.not_eq_false', beq_iff_eq, beq_eq_false_iff_ne] at h) <;> (first | (exfalso; first | omega | exact h trivial) | (conv => whnf)))
    | (refine Ask.mk (by first | omega | (unfold roomOK; simp [cutRows]; done) | (unfold roomOK; simp [cutRows]; omega)) ?_; conv => whnf)
    | (refine SliceG.fr ?_; conv => whnf)
    | fail)
  refine .mk (α := Nat × S × S) (fun e => e) [] rfl (fun _ => ?_) (by intro e he; cases he)
  conv => whnf
  repeat' (first
    | (refine Split.mk (fun h => ?_) (fun h => ?_) <;> (try simp only [decide_eq_true_eq, decide_eq_false_iff_not, Bool.not_eq_true', Bool.not_eq_false', beq_iff_eq, beq_eq_false_iff_ne] at h) <;> (first | (exfalso; first | omega | exact h trivial) | (conv => whnf)))
    | (refine CondG.mk (fun h => ?_) (fun h => ?_) <;> (try simp only [decide_eq_true_eq, decide_eq_false_iff_not, Bool.not_eq_true', Bool.not_eq_false', beq_iff_eq, beq_eq_false_iff_ne] at h) <;> (first | (exfalso; first | omega | exact h trivial) | (conv => whnf)))
    | (refine CallX.mk _ _ (by first | exact sort1_pc _ _) ?_; conv => whnf)
    | (refine CallG.mk _ _ (by first | exact sort1_pc _ _) ?_; conv => whnf)
    | (refine Ask.mk (by first | omega | (unfold roomOK; simp [cutRows]; done) | (unfold roomOK; simp [cutRows]; omega)) ?_; conv => whnf)
    | (refine SliceG.fr ?_; conv => whnf)
    | fail)
  exact .mk ⟨rfl, rfl⟩
end Go.Proofs.YtmdcgimpgoacdaaGreatDoor

/- The law PlansWeighed, by the abstract walk. -/
namespace Go.Proofs.YtmdcgimpgoacdaaGreatDoor
set_option linter.unusedVariables false
set_option linter.unusedSimpArgs false
open Abs

def lab1 : ByteArray := ⟨#[100]⟩
set_option maxRecDepth 100000 in
set_option maxHeartbeats 4000000 in
theorem stored_pc : PCp 25 [] [] (.c (.bool true)) [] := by
  refine fn_sound (mt := mts) tab_fits tab_mixed Tryz.func25 (by rfl) (by kernel_rfl) (by kernel_rfl) Tryz.results25 (Nat.le_of_ble_eq_true (by kernel_rfl)) ?_
  conv => whnf
  refine .mk _ _ (stock_pc ⟨1, 1, ⟨#[100]⟩, ⟨#[116]⟩, ⟨#[]⟩, 5⟩ rfl (by decide +kernel) 1 (by decide) (by decide)) ?_
  conv => whnf
  repeat' (first
    | (refine Split.mk (fun h => ?_) (fun h => ?_) <;> (try simp only [decide_eq_true_eq, decide_eq_false_iff_not, Bool.not_eq_true', Bool.not_eq_false', beq_iff_eq, beq_eq_false_iff_ne] at h) <;> (first | (exfalso; first | omega | exact h trivial) | (conv => whnf)))
    | (refine CondG.mk (fun h => ?_) (fun h => ?_) <;> (try simp only [decide_eq_true_eq, decide_eq_false_iff_not, Bool.not_eq_true', Bool.not_eq_false', beq_iff_eq, beq_eq_false_iff_ne] at h) <;> (first | (exfalso; first | omega | exact h trivial) | (conv => whnf)))
    | (refine Ask.mk (by first | omega | (unfold roomOK; simp [cutRows]; done) | (unfold roomOK; simp [cutRows]; omega)) ?_; conv => whnf)
    | (refine SliceG.fr ?_; conv => whnf)
    | fail)
  refine .mk (by simp) ?_
  conv => whnf
  refine .mk _ rfl ?_
  conv => whnf
  repeat' (first
    | (refine Split.mk (fun h => ?_) (fun h => ?_) <;> (try simp only [decide_eq_true_eq, decide_eq_false_iff_not, Bool.not_eq_true', Bool.not_eq_false', beq_iff_eq, beq_eq_false_iff_ne] at h) <;> (first | (exfalso; first | omega | exact h trivial) | (conv => whnf)))
    | (refine CondG.mk (fun h => ?_) (fun h => ?_) <;> (try simp only [decide_eq_true_eq, decide_eq_false_iff_not, Bool.not_eq_true', Bool.not_eq_false', beq_iff_eq, beq_eq_false_iff_ne] at h) <;> (first | (exfalso; first | omega | exact h trivial) | (conv => whnf)))
    | (refine Ask.mk (by first | omega | (unfold roomOK; simp [cutRows]; done) | (unfold roomOK; simp [cutRows]; omega)) ?_; conv => whnf)
    | (refine SliceG.fr ?_; conv => whnf)
    | fail)
  · exact finb rfl
  · exact absurd rfl h

theorem drumsV_in (L : List Int) (p most : Int) (h0 : 0 ≤ most) : p ≤ (drumsV L p most).2 ∧ (drumsV L p most).2 ≤ p + 2 * most + 6 ∧ ((drumsV L p most).1.length : Int) ≤ most := by
  have hr := rangeV_in L p 0 most h0
  have hs := pcIter_snd L (p + 1) ⟨#[100]⟩ dLongs (rangeV L p 0 most).toNat
  have hl := pcIter_len L (p + 1) ⟨#[100]⟩ dLongs (rangeV L p 0 most).toNat
  unfold drumsV
  simp only
  generalize pcIter L (p + 1) ⟨#[100]⟩ dLongs (rangeV L p 0 most).toNat = A at *
  split
  · split
    · simp only [dSpoil, List.length_set]; omega
    · simp only; omega
  · omega
theorem sectsV_in (L : List Int) (p most : Int) (h0 : 0 ≤ most) : p ≤ (sectsV L p most).2 ∧ (sectsV L p most).2 ≤ p + 2 * most + 6 ∧ ((sectsV L p most).1.length : Int) ≤ most := by
  have hr := rangeV_in L p 0 most h0
  have hs := pcIter_snd L (p + 1) ⟨#[115]⟩ sLongs (rangeV L p 0 most).toNat
  have hl := pcIter_len L (p + 1) ⟨#[115]⟩ sLongs (rangeV L p 0 most).toNat
  unfold sectsV
  simp only
  generalize pcIter L (p + 1) ⟨#[115]⟩ sLongs (rangeV L p 0 most).toNat = A at *
  split
  · split
    · simp only [sSpoil, List.length_set]; omega
    · simp only; omega
  · omega
theorem cutV_in (L : List Int) (p : Int) : p ≤ (cutV L p).2 ∧ (cutV L p).2 ≤ p + 6 := by
  unfold cutV
  split <;> simp only <;> omega
theorem planV_len (L : List Int) (p : Int) (nd n : Nat) : (planV L p nd n).1.length ≤ n + 1 := by
  unfold planV
  split <;> simp [cutsV_len]

end Go.Proofs.YtmdcgimpgoacdaaGreatDoor

/- Lists of acts are sorted. -/
namespace Go.Proofs.YtmdcgimpgoacdaaGreatDoor
set_option linter.unusedVariables false
set_option linter.unusedSimpArgs false
open Abs

set_option maxRecDepth 100000 in
set_option maxHeartbeats 4000000 in
theorem insAct_pc  (g : Nat) (c : Ac → Ac → Int) (hg : ∀ x y : Ac, PCp g [.agg (encAc x), .agg (encAc y)] [] (.c (.int .i64 (c x y))) []) (a b : Nat) (l : List Ac) (ha : a ≤ l.length) (hb : b ≤ l.length) (hl : l.length ≤ 1000000000) :
    PCp 113 [.c (.row 0), .c (.int .i64 a), .c (.int .i64 b), .c (.fn g [])] [.row 51 6 (l.map encAc)] (.tup []) [.row 51 6 ((insTo c a (b - (a + 1)) l).map encAc)] := by
  have hw : IntKind.i64.wrap ((a : Int) + 1) = ((a + 1 : Nat) : Int) := by rw [wrap_in (by omega) (by omega)]; rfl
  refine fn_sound (mt := mts) tab_fits tab_mixed Tryz.func113 (by rfl) (by kernel_rfl) (by kernel_rfl) Tryz.results113 (Nat.le_of_ble_eq_true (by kernel_rfl)) ?_
  conv => whnf
  rw [hw]
  refine loop_count (b - (a + 1)) [] [0, 1, 2, 3, 8] (fun k (_ : Unit) => ⟨[(0, .c (.row 0)), (1, .c (.int .i64 a)), (2, .c (.int .i64 b)), (3, .c (.fn g [])), (8, .c (.int .i64 ((a + 1 + k : Nat) : Int)))], [(0, .row 51 6 ((insTo c a k l).map encAc))], 1⟩) (fun k (_ : Unit) => True) (()) ?_ ?_ ?_
  · conv => whnf
    exact ⟨rfl, trivial⟩
  · intro k _ hk _
    have hlen := insTo_len c a k l
    conv => whnf
    refine .mk (fun h => ?_) (fun h => ?_)
    rotate_left
    · simp at h; omega
    conv => whnf
    refine loop_meas2 (fun (j : Nat) (q : List Ac) => j) [] [0, 1, 2, 3, 8, 9] (fun (j : Nat) (q : List Ac) => ⟨[(0, .c (.row 0)), (1, .c (.int .i64 a)), (2, .c (.int .i64 b)), (3, .c (.fn g [])), (8, .c (.int .i64 ((a + 1 + k : Nat) : Int))), (9, .c (.int .i64 ((j : Nat) : Int)))], [(0, .row 51 6 (q.map encAc))], 1⟩) (fun (j : Nat) (q : List Ac) => insDown c a j q = insTo c a (k + 1) l ∧ j < l.length ∧ q.length = l.length) (a + 1 + k) (insTo c a k l) ?_ ?_
    · conv => whnf
      exact ⟨rfl, rfl, by omega, by omega⟩
    · intro j q ⟨h1, h2, h3⟩
      conv => whnf
      repeat' (first
        | (refine Split.mk (fun h => ?_) (fun h => ?_) <;> (try simp only [decide_eq_true_eq, decide_eq_false_iff_not, Bool.not_eq_true', Bool.not_eq_false', beq_iff_eq, beq_eq_false_iff_ne] at h) <;> (first | (exfalso; first | omega | exact h trivial) | (conv => whnf)))
        | (refine CondG.mk (fun h => ?_) (fun h => ?_) <;> (try simp only [decide_eq_true_eq, decide_eq_false_iff_not, Bool.not_eq_true', Bool.not_eq_false', beq_iff_eq, beq_eq_false_iff_ne] at h) <;> (first | (exfalso; first | omega | exact h trivial) | (conv => whnf)))
        | (refine Ask.mk (by first | omega | (unfold roomOK; simp [cutRows]; done) | (unfold roomOK; simp [cutRows]; omega)) ?_; conv => whnf)
        | (refine SliceG.fr ?_; conv => whnf)
        | fail)
      · -- one more to the left?
        obtain ⟨i, rfl⟩ : ∃ i, j = i + 1 := ⟨j - 1, by omega⟩
        have hw2 : IntKind.i64.wrap (((i + 1 : Nat) : Int) - 1) = ((i : Nat) : Int) := by rw [wrap_in (by omega) (by omega)]; omega
        refine .mk (by rw [List.length_map]; omega) ?_
        conv => whnf
        refine row_at (i + 1) toN (by omega) ?_
        conv => whnf
        rw [hw2]
        refine .mk (by rw [List.length_map]; omega) ?_
        conv => whnf
        refine row_at i toN (by omega) ?_
        conv => whnf
        repeat' (first
          | (refine Split.mk (fun h => ?_) (fun h => ?_) <;> (try simp only [decide_eq_true_eq, decide_eq_false_iff_not, Bool.not_eq_true', Bool.not_eq_false', beq_iff_eq, beq_eq_false_iff_ne] at h) <;> (first | (exfalso; first | omega | exact h trivial) | (conv => whnf)))
          | (refine CondG.mk (fun h => ?_) (fun h => ?_) <;> (try simp only [decide_eq_true_eq, decide_eq_false_iff_not, Bool.not_eq_true', Bool.not_eq_false', beq_iff_eq, beq_eq_false_iff_ne] at h) <;> (first | (exfalso; first | omega | exact h trivial) | (conv => whnf)))
          | (refine CallX.mk _ _ (by first | exact hg _ _) ?_; conv => whnf)
          | (refine CallG.mk _ _ (by first | exact hg _ _) ?_; conv => whnf)
          | (refine Ask.mk (by first | omega | (unfold roomOK; simp [cutRows]; done) | (unfold roomOK; simp [cutRows]; omega)) ?_; conv => whnf)
          | (refine SliceG.fr ?_; conv => whnf)
          | fail)
        · rw [insDown_step (by omega) (by omega) h] at h1
          repeat' (first
            | (refine Split.mk (fun h => ?_) (fun h => ?_) <;> (try simp only [decide_eq_true_eq, decide_eq_false_iff_not, Bool.not_eq_true', Bool.not_eq_false', beq_iff_eq, beq_eq_false_iff_ne] at h) <;> (first | (exfalso; first | omega | exact h trivial) | (conv => whnf)))
            | (refine CondG.mk (fun h => ?_) (fun h => ?_) <;> (try simp only [decide_eq_true_eq, decide_eq_false_iff_not, Bool.not_eq_true', Bool.not_eq_false', beq_iff_eq, beq_eq_false_iff_ne] at h) <;> (first | (exfalso; first | omega | exact h trivial) | (conv => whnf)))
            | (refine Ask.mk (by first | omega | (unfold roomOK; simp [cutRows]; done) | (unfold roomOK; simp [cutRows]; omega)) ?_; conv => whnf)
            | (refine SliceG.fr ?_; conv => whnf)
            | fail)
          rw [hw2]
          refine .mk (by rw [List.length_map]; omega) ?_
          conv => whnf
          refine row_at i toN (by omega) ?_
          conv => whnf
          refine .mk (by rw [List.length_map]; omega) ?_
          conv => whnf
          refine row_at (i + 1) toN (by omega) ?_
          conv => whnf
          refine .mk (by rw [List.length_map]; omega) ?_
          conv => whnf
          refine row_at (i + 1) toN (by omega) ?_
          conv => whnf
          refine .mk (by rw [List.length_set, List.length_map]; omega) ?_
          conv => whnf
          refine .mk (encAc (q[i]'(by omega))) (by rw [toN, toN, List.getElem?_set_ne (by omega)]; simp [show i < q.length by omega]) ?_
          conv => whnf
          refine meas_next (i, (q.set (i + 1) (q[i]'(by omega))).set i (q[i + 1]'(by omega))) (by simp only; omega) (by rw [toN, toN, hw2]; simp only [List.map_set]; rfl) ⟨h1, by simp only; omega, by simp [h3]⟩
        · rw [insDown_stop (by omega) h] at h1
          conv => whnf
          refine count_next () hk (by rw [h1, show IntKind.i64.wrap (((a + 1 + k : Nat) : Int) + 1) = ((a + 1 + (k + 1) : Nat) : Int) by rw [wrap_in (by omega) (by omega)]; omega]; rfl) trivial
      · rw [insDown_low (by omega)] at h1
        refine count_next () hk (by rw [h1, show IntKind.i64.wrap (((a + 1 + k : Nat) : Int) + 1) = ((a + 1 + (k + 1) : Nat) : Int) by rw [wrap_in (by omega) (by omega)]; omega]; rfl) trivial
  · intro _ _
    have hlen := insTo_len c a (b - (a + 1)) l
    conv => whnf
    repeat' (first
      | (refine Split.mk (fun h => ?_) (fun h => ?_) <;> (try simp only [decide_eq_true_eq, decide_eq_false_iff_not, Bool.not_eq_true', Bool.not_eq_false', beq_iff_eq, beq_eq_false_iff_ne] at h) <;> (first | (exfalso; first | omega | exact h trivial) | (conv => whnf)))
      | (refine CondG.mk (fun h => ?_) (fun h => ?_) <;> (try simp only [decide_eq_true_eq, decide_eq_false_iff_not, Bool.not_eq_true', Bool.not_eq_false', beq_iff_eq, beq_eq_false_iff_ne] at h) <;> (first | (exfalso; first | omega | exact h trivial) | (conv => whnf)))
      | (refine Ask.mk (by first | omega | (unfold roomOK; simp [cutRows]; done) | (unfold roomOK; simp [cutRows]; omega)) ?_; conv => whnf)
      | (refine SliceG.fr ?_; conv => whnf)
      | fail)
    exact .mk ⟨rfl, rfl⟩
set_option maxRecDepth 100000 in
set_option maxHeartbeats 4000000 in
theorem stAct_pc  (g : Nat) (c : Ac → Ac → Int) (hg : ∀ x y : Ac, PCp g [.agg (encAc x), .agg (encAc y)] [] (.c (.int .i64 (c x y))) []) (l : List Ac) (hl : l.length < 20) :
    PCp 41 [.c (.row 0), .c (.fn g [])] [.row 51 6 (l.map encAc)] (.tup []) [.row 51 6 ((insSort c l).map encAc)] := by
  have hlm : (l.map encAc).length = l.length := List.length_map ..
  have hst : PCp 84 [.c (.row 0), .c (.int .i64 l.length), .c (.fn g [])] [.row 51 6 (l.map encAc)] (.tup []) [.row 51 6 ((insSort c l).map encAc)] := by
    refine fn_sound (mt := mts) tab_fits tab_mixed Tryz.func84 (by rfl) (by kernel_rfl) (by kernel_rfl) Tryz.results84 (Nat.le_of_ble_eq_true (by kernel_rfl)) ?_
    conv => whnf
    refine .un 1 ?_
    conv => whnf
    repeat' (first
      | (refine Split.mk (fun h => ?_) (fun h => ?_) <;> (try simp only [decide_eq_true_eq, decide_eq_false_iff_not, Bool.not_eq_true', Bool.not_eq_false', beq_iff_eq, beq_eq_false_iff_ne] at h) <;> (first | (exfalso; first | omega | exact h trivial) | (conv => whnf)))
      | (refine CondG.mk (fun h => ?_) (fun h => ?_) <;> (try simp only [decide_eq_true_eq, decide_eq_false_iff_not, Bool.not_eq_true', Bool.not_eq_false', beq_iff_eq, beq_eq_false_iff_ne] at h) <;> (first | (exfalso; first | omega | exact h trivial) | (conv => whnf)))
      | (refine Ask.mk (by first | omega | (unfold roomOK; simp [cutRows]; done) | (unfold roomOK; simp [cutRows]; omega)) ?_; conv => whnf)
      | (refine SliceG.fr ?_; conv => whnf)
      | fail)
    refine .mk _ _ (insAct_pc g c hg 0 l.length l (Nat.zero_le _) (Nat.le_refl _) (by omega)) ?_
    conv => whnf
    refine .un 1 ?_
    conv => whnf
    repeat' (first
      | (refine Split.mk (fun h => ?_) (fun h => ?_) <;> (try simp only [decide_eq_true_eq, decide_eq_false_iff_not, Bool.not_eq_true', Bool.not_eq_false', beq_iff_eq, beq_eq_false_iff_ne] at h) <;> (first | (exfalso; first | omega | exact h trivial) | (conv => whnf)))
      | (refine CondG.mk (fun h => ?_) (fun h => ?_) <;> (try simp only [decide_eq_true_eq, decide_eq_false_iff_not, Bool.not_eq_true', Bool.not_eq_false', beq_iff_eq, beq_eq_false_iff_ne] at h) <;> (first | (exfalso; first | omega | exact h trivial) | (conv => whnf)))
      | (refine Ask.mk (by first | omega | (unfold roomOK; simp [cutRows]; done) | (unfold roomOK; simp [cutRows]; omega)) ?_; conv => whnf)
      | (refine SliceG.fr ?_; conv => whnf)
      | fail)
    exact .mk ⟨rfl, rfl⟩
  refine fn_sound (mt := mts) tab_fits tab_mixed Tryz.func41 (by rfl) (by kernel_rfl) (by kernel_rfl) Tryz.results41 (Nat.le_of_ble_eq_true (by kernel_rfl)) ?_
  conv => whnf
  rw [hlm]
  repeat' (first
    | (refine Split.mk (fun h => ?_) (fun h => ?_) <;> (try simp only [decide_eq_true_eq, decide_eq_false_iff_not, Bool.not_eq_true', Bool.not_eq_false', beq_iff_eq, beq_eq_false_iff_ne] at h) <;> (first | (exfalso; first | omega | exact h trivial) | (conv => whnf)))
    | (refine CondG.mk (fun h => ?_) (fun h => ?_) <;> (try simp only [decide_eq_true_eq, decide_eq_false_iff_not, Bool.not_eq_true', Bool.not_eq_false', beq_iff_eq, beq_eq_false_iff_ne] at h) <;> (first | (exfalso; first | omega | exact h trivial) | (conv => whnf)))
    | (refine CallX.mk _ _ (by first | exact hst) ?_; conv => whnf)
    | (refine CallG.mk _ _ (by first | exact hst) ?_; conv => whnf)
    | (refine Ask.mk (by first | omega | (unfold roomOK; simp [cutRows]; done) | (unfold roomOK; simp [cutRows]; omega)) ?_; conv => whnf)
    | (refine SliceG.fr ?_; conv => whnf)
    | fail)
  exact .mk ⟨rfl, rfl⟩
set_option maxRecDepth 100000 in
set_option maxHeartbeats 4000000 in
theorem insPc_pc  (g : Nat) (c : Pc → Pc → Int) (hg : ∀ x y : Pc, PCp g [.agg (encPc x), .agg (encPc y)] [] (.c (.int .i64 (c x y))) []) (a b : Nat) (l : List Pc) (ha : a ≤ l.length) (hb : b ≤ l.length) (hl : l.length ≤ 1000000000) :
    PCp 115 [.c (.row 0), .c (.int .i64 a), .c (.int .i64 b), .c (.fn g [])] [.row 56 3 (l.map encPc)] (.tup []) [.row 56 3 ((insTo c a (b - (a + 1)) l).map encPc)] := by
  have hw : IntKind.i64.wrap ((a : Int) + 1) = ((a + 1 : Nat) : Int) := by rw [wrap_in (by omega) (by omega)]; rfl
  refine fn_sound (mt := mts) tab_fits tab_mixed Tryz.func115 (by rfl) (by kernel_rfl) (by kernel_rfl) Tryz.results115 (Nat.le_of_ble_eq_true (by kernel_rfl)) ?_
  conv => whnf
  rw [hw]
  refine loop_count (b - (a + 1)) [] [0, 1, 2, 3, 8] (fun k (_ : Unit) => ⟨[(0, .c (.row 0)), (1, .c (.int .i64 a)), (2, .c (.int .i64 b)), (3, .c (.fn g [])), (8, .c (.int .i64 ((a + 1 + k : Nat) : Int)))], [(0, .row 56 3 ((insTo c a k l).map encPc))], 1⟩) (fun k (_ : Unit) => True) (()) ?_ ?_ ?_
  · conv => whnf
    exact ⟨rfl, trivial⟩
  · intro k _ hk _
    have hlen := insTo_len c a k l
    conv => whnf
    refine .mk (fun h => ?_) (fun h => ?_)
    rotate_left
    · simp at h; omega
    conv => whnf
    refine loop_meas2 (fun (j : Nat) (q : List Pc) => j) [] [0, 1, 2, 3, 8, 9] (fun (j : Nat) (q : List Pc) => ⟨[(0, .c (.row 0)), (1, .c (.int .i64 a)), (2, .c (.int .i64 b)), (3, .c (.fn g [])), (8, .c (.int .i64 ((a + 1 + k : Nat) : Int))), (9, .c (.int .i64 ((j : Nat) : Int)))], [(0, .row 56 3 (q.map encPc))], 1⟩) (fun (j : Nat) (q : List Pc) => insDown c a j q = insTo c a (k + 1) l ∧ j < l.length ∧ q.length = l.length) (a + 1 + k) (insTo c a k l) ?_ ?_
    · conv => whnf
      exact ⟨rfl, rfl, by omega, by omega⟩
    · intro j q ⟨h1, h2, h3⟩
      conv => whnf
      repeat' (first
        | (refine Split.mk (fun h => ?_) (fun h => ?_) <;> (try simp only [decide_eq_true_eq, decide_eq_false_iff_not, Bool.not_eq_true', Bool.not_eq_false', beq_iff_eq, beq_eq_false_iff_ne] at h) <;> (first | (exfalso; first | omega | exact h trivial) | (conv => whnf)))
        | (refine CondG.mk (fun h => ?_) (fun h => ?_) <;> (try simp only [decide_eq_true_eq, decide_eq_false_iff_not, Bool.not_eq_true', Bool.not_eq_false', beq_iff_eq, beq_eq_false_iff_ne] at h) <;> (first | (exfalso; first | omega | exact h trivial) | (conv => whnf)))
        | (refine Ask.mk (by first | omega | (unfold roomOK; simp [cutRows]; done) | (unfold roomOK; simp [cutRows]; omega)) ?_; conv => whnf)
        | (refine SliceG.fr ?_; conv => whnf)
        | fail)
      · -- one more to the left?
        obtain ⟨i, rfl⟩ : ∃ i, j = i + 1 := ⟨j - 1, by omega⟩
        have hw2 : IntKind.i64.wrap (((i + 1 : Nat) : Int) - 1) = ((i : Nat) : Int) := by rw [wrap_in (by omega) (by omega)]; omega
        refine .mk (by rw [List.length_map]; omega) ?_
        conv => whnf
        refine row_at (i + 1) toN (by omega) ?_
        conv => whnf
        rw [hw2]
        refine .mk (by rw [List.length_map]; omega) ?_
        conv => whnf
        refine row_at i toN (by omega) ?_
        conv => whnf
        repeat' (first
          | (refine Split.mk (fun h => ?_) (fun h => ?_) <;> (try simp only [decide_eq_true_eq, decide_eq_false_iff_not, Bool.not_eq_true', Bool.not_eq_false', beq_iff_eq, beq_eq_false_iff_ne] at h) <;> (first | (exfalso; first | omega | exact h trivial) | (conv => whnf)))
          | (refine CondG.mk (fun h => ?_) (fun h => ?_) <;> (try simp only [decide_eq_true_eq, decide_eq_false_iff_not, Bool.not_eq_true', Bool.not_eq_false', beq_iff_eq, beq_eq_false_iff_ne] at h) <;> (first | (exfalso; first | omega | exact h trivial) | (conv => whnf)))
          | (refine CallX.mk _ _ (by first | exact hg _ _) ?_; conv => whnf)
          | (refine CallG.mk _ _ (by first | exact hg _ _) ?_; conv => whnf)
          | (refine Ask.mk (by first | omega | (unfold roomOK; simp [cutRows]; done) | (unfold roomOK; simp [cutRows]; omega)) ?_; conv => whnf)
          | (refine SliceG.fr ?_; conv => whnf)
          | fail)
        · rw [insDown_step (by omega) (by omega) h] at h1
          repeat' (first
            | (refine Split.mk (fun h => ?_) (fun h => ?_) <;> (try simp only [decide_eq_true_eq, decide_eq_false_iff_not, Bool.not_eq_true', Bool.not_eq_false', beq_iff_eq, beq_eq_false_iff_ne] at h) <;> (first | (exfalso; first | omega | exact h trivial) | (conv => whnf)))
            | (refine CondG.mk (fun h => ?_) (fun h => ?_) <;> (try simp only [decide_eq_true_eq, decide_eq_false_iff_not, Bool.not_eq_true', Bool.not_eq_false', beq_iff_eq, beq_eq_false_iff_ne] at h) <;> (first | (exfalso; first | omega | exact h trivial) | (conv => whnf)))
            | (refine Ask.mk (by first | omega | (unfold roomOK; simp [cutRows]; done) | (unfold roomOK; simp [cutRows]; omega)) ?_; conv => whnf)
            | (refine SliceG.fr ?_; conv => whnf)
            | fail)
          rw [hw2]
          refine .mk (by rw [List.length_map]; omega) ?_
          conv => whnf
          refine row_at i toN (by omega) ?_
          conv => whnf
          refine .mk (by rw [List.length_map]; omega) ?_
          conv => whnf
          refine row_at (i + 1) toN (by omega) ?_
          conv => whnf
          refine .mk (by rw [List.length_map]; omega) ?_
          conv => whnf
          refine row_at (i + 1) toN (by omega) ?_
          conv => whnf
          refine .mk (by rw [List.length_set, List.length_map]; omega) ?_
          conv => whnf
          refine .mk (encPc (q[i]'(by omega))) (by rw [toN, toN, List.getElem?_set_ne (by omega)]; simp [show i < q.length by omega]) ?_
          conv => whnf
          refine meas_next (i, (q.set (i + 1) (q[i]'(by omega))).set i (q[i + 1]'(by omega))) (by simp only; omega) (by rw [toN, toN, hw2]; simp only [List.map_set]; rfl) ⟨h1, by simp only; omega, by simp [h3]⟩
        · rw [insDown_stop (by omega) h] at h1
          conv => whnf
          refine count_next () hk (by rw [h1, show IntKind.i64.wrap (((a + 1 + k : Nat) : Int) + 1) = ((a + 1 + (k + 1) : Nat) : Int) by rw [wrap_in (by omega) (by omega)]; omega]; rfl) trivial
      · rw [insDown_low (by omega)] at h1
        refine count_next () hk (by rw [h1, show IntKind.i64.wrap (((a + 1 + k : Nat) : Int) + 1) = ((a + 1 + (k + 1) : Nat) : Int) by rw [wrap_in (by omega) (by omega)]; omega]; rfl) trivial
  · intro _ _
    have hlen := insTo_len c a (b - (a + 1)) l
    conv => whnf
    repeat' (first
      | (refine Split.mk (fun h => ?_) (fun h => ?_) <;> (try simp only [decide_eq_true_eq, decide_eq_false_iff_not, Bool.not_eq_true', Bool.not_eq_false', beq_iff_eq, beq_eq_false_iff_ne] at h) <;> (first | (exfalso; first | omega | exact h trivial) | (conv => whnf)))
      | (refine CondG.mk (fun h => ?_) (fun h => ?_) <;> (try simp only [decide_eq_true_eq, decide_eq_false_iff_not, Bool.not_eq_true', Bool.not_eq_false', beq_iff_eq, beq_eq_false_iff_ne] at h) <;> (first | (exfalso; first | omega | exact h trivial) | (conv => whnf)))
      | (refine Ask.mk (by first | omega | (unfold roomOK; simp [cutRows]; done) | (unfold roomOK; simp [cutRows]; omega)) ?_; conv => whnf)
      | (refine SliceG.fr ?_; conv => whnf)
      | fail)
    exact .mk ⟨rfl, rfl⟩
/-! the length of a small number -/
theorem wrapU64 (n : Nat) (h : n ≤ 1000000) : IntKind.u64.wrap (n : Int) = n := IntWalk.u64_in _ ⟨by omega, by omega⟩
set_option maxRecDepth 100000 in
set_option maxHeartbeats 4000000 in
theorem bLen64_ex (n : Nat) (h : n ≤ 100) : ∃ v : Int, PCp 124 [.c (.int .u64 n)] [] (.c (.int .i64 v)) [] := by
  apply Exists.intro
  refine fn_sound (mt := mts) tab_fits tab_mixed Tryz.func124 (by rfl) (by kernel_rfl) (by kernel_rfl) Tryz.results124 (Nat.le_of_ble_eq_true (by kernel_rfl)) ?_
  conv => whnf
  repeat' (first
    | (refine Split.mk (fun h => ?_) (fun h => ?_) <;> (try simp only [decide_eq_true_eq, decide_eq_false_iff_not, Bool.not_eq_true', Bool.not_eq_false', beq_iff_eq, beq_eq_false_iff_ne] at h) <;> (first | (exfalso; first | omega | exact h trivial) | (conv => whnf)))
    | (refine CondG.mk (fun h => ?_) (fun h => ?_) <;> (try simp only [decide_eq_true_eq, decide_eq_false_iff_not, Bool.not_eq_true', Bool.not_eq_false', beq_iff_eq, beq_eq_false_iff_ne] at h) <;> (first | (exfalso; first | omega | exact h trivial) | (conv => whnf)))
    | (refine Ask.mk (by first | omega | (unfold roomOK; simp [cutRows]; done) | (unfold roomOK; simp [cutRows]; omega)) ?_; conv => whnf)
    | (refine SliceG.fr ?_; conv => whnf)
    | fail)
  rw [IntWalk.u8_in _ ⟨by omega, by omega⟩]
  refine .mk ⟨by omega, Int.lt_of_lt_of_le (show (n : Int) < 101 by omega) (by decide +kernel)⟩ ?_
  conv => whnf
  exact .mk ⟨rfl, rfl⟩
set_option maxRecDepth 100000 in
set_option maxHeartbeats 4000000 in
theorem bLen_ex (n : Nat) (h : n ≤ 100) : ∃ v : Int, PCp 90 [.c (.int .u64 n)] [] (.c (.int .i64 v)) [] := by
  obtain ⟨v, hv⟩ := bLen64_ex n h
  refine ⟨v, ?_⟩
  refine fn_sound (mt := mts) tab_fits tab_mixed Tryz.func90 (by rfl) (by kernel_rfl) (by kernel_rfl) Tryz.results90 (Nat.le_of_ble_eq_true (by kernel_rfl)) ?_
  conv => whnf
  repeat' (first
    | (refine Split.mk (fun h => ?_) (fun h => ?_) <;> (try simp only [decide_eq_true_eq, decide_eq_false_iff_not, Bool.not_eq_true', Bool.not_eq_false', beq_iff_eq, beq_eq_false_iff_ne] at h) <;> (first | (exfalso; first | omega | exact h trivial) | (conv => whnf)))
    | (refine CondG.mk (fun h => ?_) (fun h => ?_) <;> (try simp only [decide_eq_true_eq, decide_eq_false_iff_not, Bool.not_eq_true', Bool.not_eq_false', beq_iff_eq, beq_eq_false_iff_ne] at h) <;> (first | (exfalso; first | omega | exact h trivial) | (conv => whnf)))
    | (refine CallX.mk _ _ (by first | exact hv) ?_; conv => whnf)
    | (refine CallG.mk _ _ (by first | exact hv) ?_; conv => whnf)
    | (refine Ask.mk (by first | omega | (unfold roomOK; simp [cutRows]; done) | (unfold roomOK; simp [cutRows]; omega)) ?_; conv => whnf)
    | (refine SliceG.fr ?_; conv => whnf)
    | fail)
  exact fini rfl
set_option maxRecDepth 100000 in
set_option maxHeartbeats 4000000 in
theorem pdqPc_pc  (g : Nat) (c : Pc → Pc → Int) (hg : ∀ x y : Pc, PCp g [.agg (encPc x), .agg (encPc y)] [] (.c (.int .i64 (c x y))) []) (l : List Pc) (hl : l.length ≤ 12) :
    PCp 50 [.c (.row 0), .c (.fn g [])] [.row 56 3 (l.map encPc)] (.tup []) [.row 56 3 ((insSort c l).map encPc)] := by
  have hlm : (l.map encPc).length = l.length := List.length_map ..
  have hst : ∀ lim : Int, PCp 89 [.c (.row 0), .c (.int .i64 0), .c (.int .i64 l.length), .c (.int .i64 lim), .c (.fn g [])] [.row 56 3 (l.map encPc)] (.tup []) [.row 56 3 ((insSort c l).map encPc)] := by
    intro lim
    have hw : IntKind.i64.wrap ((l.length : Int) - 0) = l.length := by rw [wrap_in (by omega) (by omega)]; omega
    refine fn_sound (mt := mts) tab_fits tab_mixed Tryz.func89 (by rfl) (by kernel_rfl) (by kernel_rfl) Tryz.results89 (Nat.le_of_ble_eq_true (by kernel_rfl)) ?_
    conv => whnf
    refine .un 1 ?_
    conv => whnf
    rw [hw]
    repeat' (first
      | (refine Split.mk (fun h => ?_) (fun h => ?_) <;> (try simp only [decide_eq_true_eq, decide_eq_false_iff_not, Bool.not_eq_true', Bool.not_eq_false', beq_iff_eq, beq_eq_false_iff_ne] at h) <;> (first | (exfalso; first | omega | exact h trivial) | (conv => whnf)))
      | (refine CondG.mk (fun h => ?_) (fun h => ?_) <;> (try simp only [decide_eq_true_eq, decide_eq_false_iff_not, Bool.not_eq_true', Bool.not_eq_false', beq_iff_eq, beq_eq_false_iff_ne] at h) <;> (first | (exfalso; first | omega | exact h trivial) | (conv => whnf)))
      | (refine Ask.mk (by first | omega | (unfold roomOK; simp [cutRows]; done) | (unfold roomOK; simp [cutRows]; omega)) ?_; conv => whnf)
      | (refine SliceG.fr ?_; conv => whnf)
      | fail)
    refine .mk _ _ (insPc_pc g c hg 0 l.length l (Nat.zero_le _) (Nat.le_refl _) (by omega)) ?_
    conv => whnf
    exact .mk ⟨rfl, rfl⟩
  refine fn_sound (mt := mts) tab_fits tab_mixed Tryz.func50 (by rfl) (by kernel_rfl) (by kernel_rfl) Tryz.results50 (Nat.le_of_ble_eq_true (by kernel_rfl)) ?_
  conv => whnf
  rw [hlm, wrapU64 l.length (by omega)]
  obtain ⟨lim, hlim⟩ := bLen_ex l.length (by omega)
  repeat' (first
    | (refine Split.mk (fun h => ?_) (fun h => ?_) <;> (try simp only [decide_eq_true_eq, decide_eq_false_iff_not, Bool.not_eq_true', Bool.not_eq_false', beq_iff_eq, beq_eq_false_iff_ne] at h) <;> (first | (exfalso; first | omega | exact h trivial) | (conv => whnf)))
    | (refine CondG.mk (fun h => ?_) (fun h => ?_) <;> (try simp only [decide_eq_true_eq, decide_eq_false_iff_not, Bool.not_eq_true', Bool.not_eq_false', beq_iff_eq, beq_eq_false_iff_ne] at h) <;> (first | (exfalso; first | omega | exact h trivial) | (conv => whnf)))
    | (refine CallX.mk _ _ (by first | exact hlim | exact hst _) ?_; conv => whnf)
    | (refine CallG.mk _ _ (by first | exact hlim | exact hst _) ?_; conv => whnf)
    | (refine Ask.mk (by first | omega | (unfold roomOK; simp [cutRows]; done) | (unfold roomOK; simp [cutRows]; omega)) ?_; conv => whnf)
    | (refine SliceG.fr ?_; conv => whnf)
    | fail)
  exact .mk ⟨rfl, rfl⟩
deriving instance DecidableEq for Ac
theorem eqAc {x y : Ac} : (x.mo == y.mo && (x.kd == y.kd && (x.drum.toList == y.drum.toList && (x.ty.toList == y.ty.toList && (x.of.toList == y.of.toList && x.long == y.long))))) = true ↔ x = y := by
  obtain ⟨a1, a2, a3, a4, a5, a6⟩ := x
  obtain ⟨b1, b2, b3, b4, b5, b6⟩ := y
  simp only [Bool.and_eq_true, beq_iff_eq, Ac.mk.injEq]
  have hs : ∀ {s t : ByteArray}, s.toList = t.toList ↔ s = t := fun {s t} => ⟨toList_inj, fun h => by rw [h]⟩
  rw [hs, hs, hs]
set_option maxRecDepth 100000 in
set_option maxHeartbeats 4000000 in
theorem cptAc_pc (l : List Ac) (hl : l.length ≤ 1000000000) :
    ∃ ob, ((∃ rows, ob = .frow 6 rows) ∨ ob = .dead) ∧ PCp 43 [.c (.row 0)] [.row 51 6 (l.map encAc)] (.c (.lst 6 ((cpt l).map encAc))) [ob] := by
  have hlm : (l.map encAc).length = l.length := List.length_map ..
  by_cases hid : cpt l = l
  · refine ⟨.frow 6 (l.map encAc), .inl ⟨_, rfl⟩, ?_⟩
    rw [hid]
    rw [cpt_id] at hid
    have hfr : ∀ (m : Nat) (r : List Ac), FinR 1 (.c (.lst 6 (r.map encAc))) [.frow 6 (r.map encAc)] (.c (.row 0)) [.row 51 6 (r.map encAc)] := fun m r => .frz 0 _ _ _ rfl (.weak [] (.fro 0 _ _ rfl) rfl (Nat.le_refl _))
    refine fn_sound (mt := mts) tab_fits tab_mixed Tryz.func43 (by rfl) (by kernel_rfl) (by kernel_rfl) Tryz.results43 (Nat.le_of_ble_eq_true (by kernel_rfl)) ?_
    conv => whnf
    repeat' (first
      | (refine Split.mk (fun h => ?_) (fun h => ?_) <;> (try simp only [decide_eq_true_eq, decide_eq_false_iff_not, Bool.not_eq_true', Bool.not_eq_false', beq_iff_eq, beq_eq_false_iff_ne] at h) <;> (first | (exfalso; first | omega | exact h trivial) | (conv => whnf)))
      | (refine CondG.mk (fun h => ?_) (fun h => ?_) <;> (try simp only [decide_eq_true_eq, decide_eq_false_iff_not, Bool.not_eq_true', Bool.not_eq_false', beq_iff_eq, beq_eq_false_iff_ne] at h) <;> (first | (exfalso; first | omega | exact h trivial) | (conv => whnf)))
      | (refine Ask.mk (by first | omega | (unfold roomOK; simp [cutRows]; done) | (unfold roomOK; simp [cutRows]; omega)) ?_; conv => whnf)
      | (refine SliceG.fr ?_; conv => whnf)
      | fail)
    · exact hfr 0 l
    refine loop_count (l.length - 1) [] [0, 3] (fun k (_ : Unit) => ⟨[(0, .c (.row 0)), (3, .c (.int .i64 ((k + 1 : Nat) : Int)))], [(0, .row 51 6 (l.map encAc))], 1⟩) (fun k (_ : Unit) => True) (()) ?_ ?_ ?_
    · conv => whnf
      exact ⟨rfl, trivial⟩
    · intro k _ hk _
      conv => whnf
      repeat' (first
        | (refine Split.mk (fun h => ?_) (fun h => ?_) <;> (try simp only [decide_eq_true_eq, decide_eq_false_iff_not, Bool.not_eq_true', Bool.not_eq_false', beq_iff_eq, beq_eq_false_iff_ne] at h) <;> (first | (exfalso; first | omega | exact h trivial) | (conv => whnf)))
        | (refine CondG.mk (fun h => ?_) (fun h => ?_) <;> (try simp only [decide_eq_true_eq, decide_eq_false_iff_not, Bool.not_eq_true', Bool.not_eq_false', beq_iff_eq, beq_eq_false_iff_ne] at h) <;> (first | (exfalso; first | omega | exact h trivial) | (conv => whnf)))
        | (refine Ask.mk (by first | omega | (unfold roomOK; simp [cutRows]; done) | (unfold roomOK; simp [cutRows]; omega)) ?_; conv => whnf)
        | (refine SliceG.fr ?_; conv => whnf)
        | fail)
      have hw : IntKind.i64.wrap (((k + 1 : Nat) : Int) - 1) = ((k : Nat) : Int) := by rw [wrap_in (by omega) (by omega)]; omega
      refine row_at (k + 1) toN (by omega) ?_
      conv => whnf
      rw [hw]
      refine .mk (by rw [hlm]; omega) ?_
      conv => whnf
      refine row_at k toN (by omega) ?_
      conv => whnf
      refine .mk (fun h => ?_) (fun h => ?_)
      · exact absurd (eqAc.1 h) (hid k (by omega))
      · conv => whnf
        refine count_next () hk (by rw [wrap_succ (n := l.length) (by omega) (by omega)]; rfl) trivial
    · intro _ _
      conv => whnf
      repeat' (first
        | (refine Split.mk (fun h => ?_) (fun h => ?_) <;> (try simp only [decide_eq_true_eq, decide_eq_false_iff_not, Bool.not_eq_true', Bool.not_eq_false', beq_iff_eq, beq_eq_false_iff_ne] at h) <;> (first | (exfalso; first | omega | exact h trivial) | (conv => whnf)))
        | (refine CondG.mk (fun h => ?_) (fun h => ?_) <;> (try simp only [decide_eq_true_eq, decide_eq_false_iff_not, Bool.not_eq_true', Bool.not_eq_false', beq_iff_eq, beq_eq_false_iff_ne] at h) <;> (first | (exfalso; first | omega | exact h trivial) | (conv => whnf)))
        | (refine Ask.mk (by first | omega | (unfold roomOK; simp [cutRows]; done) | (unfold roomOK; simp [cutRows]; omega)) ?_; conv => whnf)
        | (refine SliceG.fr ?_; conv => whnf)
        | fail)
      exact hfr 0 l
  · refine ⟨.dead, .inr rfl, ?_⟩
    have hid2 := mt (cpt_id l).2 hid
    refine fn_sound (mt := mts) tab_fits tab_mixed Tryz.func43 (by rfl) (by kernel_rfl) (by kernel_rfl) Tryz.results43 (Nat.le_of_ble_eq_true (by kernel_rfl)) ?_
    conv => whnf
    repeat' (first
      | (refine Split.mk (fun h => ?_) (fun h => ?_) <;> (try simp only [decide_eq_true_eq, decide_eq_false_iff_not, Bool.not_eq_true', Bool.not_eq_false', beq_iff_eq, beq_eq_false_iff_ne] at h) <;> (first | (exfalso; first | omega | exact h trivial) | (conv => whnf)))
      | (refine CondG.mk (fun h => ?_) (fun h => ?_) <;> (try simp only [decide_eq_true_eq, decide_eq_false_iff_not, Bool.not_eq_true', Bool.not_eq_false', beq_iff_eq, beq_eq_false_iff_ne] at h) <;> (first | (exfalso; first | omega | exact h trivial) | (conv => whnf)))
      | (refine Ask.mk (by first | omega | (unfold roomOK; simp [cutRows]; done) | (unfold roomOK; simp [cutRows]; omega)) ?_; conv => whnf)
      | (refine SliceG.fr ?_; conv => whnf)
      | fail)
    · exfalso; exact hid2 (by intro i hi; omega)
    refine loop_count (l.length - 1) [] [0, 3] (fun k (_ : Unit) => ⟨[(0, .c (.row 0)), (3, .c (.int .i64 ((k + 1 : Nat) : Int)))], [(0, .row 51 6 (l.map encAc))], 1⟩) (fun k (_ : Unit) => ∀ i (h : i + 1 < l.length), i + 1 ≤ k → l[i + 1] ≠ l[i]) (()) ?_ ?_ ?_
    · conv => whnf
      exact ⟨rfl, by intro i hi h; omega⟩
    · intro k _ hk hi
      conv => whnf
      repeat' (first
        | (refine Split.mk (fun h => ?_) (fun h => ?_) <;> (try simp only [decide_eq_true_eq, decide_eq_false_iff_not, Bool.not_eq_true', Bool.not_eq_false', beq_iff_eq, beq_eq_false_iff_ne] at h) <;> (first | (exfalso; first | omega | exact h trivial) | (conv => whnf)))
        | (refine CondG.mk (fun h => ?_) (fun h => ?_) <;> (try simp only [decide_eq_true_eq, decide_eq_false_iff_not, Bool.not_eq_true', Bool.not_eq_false', beq_iff_eq, beq_eq_false_iff_ne] at h) <;> (first | (exfalso; first | omega | exact h trivial) | (conv => whnf)))
        | (refine Ask.mk (by first | omega | (unfold roomOK; simp [cutRows]; done) | (unfold roomOK; simp [cutRows]; omega)) ?_; conv => whnf)
        | (refine SliceG.fr ?_; conv => whnf)
        | fail)
      have hw : IntKind.i64.wrap (((k + 1 : Nat) : Int) - 1) = ((k : Nat) : Int) := by rw [wrap_in (by omega) (by omega)]; omega
      refine row_at (k + 1) toN (by omega) ?_
      conv => whnf
      rw [hw]
      refine .mk (by rw [hlm]; omega) ?_
      conv => whnf
      refine row_at k toN (by omega) ?_
      conv => whnf
      refine .mk (fun h => ?_) (fun h => ?_)
      · have he : l[k + 1] = l[k] := eqAc.1 h
        have hfrom := cpt_from l k (by omega) hi
        clear h
        conv => whnf
        refine .mk (by rw [hlm]; omega) ?_
        conv => whnf
        refine .vw ?_
        conv => whnf
        have hn : l.length - (k + 1) - 1 + 1 + (k + 1) = l.length := by omega
        refine loop_count2 (l.length - (k + 1) - 1) [] [0, 3, 4, 5] (fun m (j : Nat) (q : List Ac) => ⟨[(0, .c (.row 0)), (3, .c (.int .i64 ((j : Nat) : Int))), (4, .c (.vw 0 6 (k + 1) (l.length - (k + 1)))), (5, .c (.int .i64 ((m + 1 : Nat) : Int)))], [(0, .row 51 6 (q.map encAc))], 1⟩) (fun m (j : Nat) (q : List Ac) => q.length = l.length ∧ j ≤ k + 1 + m ∧ q.drop (k + 1 + m) = l.drop (k + 1 + m) ∧ q.take j ++ cptA (l.getD (k + 1 + m) l[k]) (l.drop (k + 1 + m + 1)) = cpt l) (k + 1) (l) ?_ ?_ ?_
        · conv => whnf
          refine ⟨by rw [hlm]; rfl, rfl, Nat.le_refl _, rfl, ?_⟩
          rw [hfrom, getDD (show k + 1 + 0 < l.length by omega), List.drop_eq_getElem_cons (show k + 1 < l.length by omega), cptA, if_pos he, he]
        · intro m j q hm ⟨g1, g2, g3, g4⟩
          have hqm : (q.map encAc).length = q.length := List.length_map ..
          have hwm : IntKind.i64.wrap (((m + 1 : Nat) : Int) - 1) = ((m : Nat) : Int) := by rw [wrap_in (by omega) (by omega)]; omega
          have q1 : q[k + 1 + m]'(by omega) = l[k + 1 + m]'(by omega) := getElem_of_drop g3 (by omega) (by omega) (by omega)
          have q2 : q[k + 1 + m + 1]'(by omega) = l[k + 1 + m + 1]'(by omega) := getElem_of_drop g3 (by omega) (by omega) (by omega)
          conv => whnf
          repeat' (first
            | (refine Split.mk (fun h => ?_) (fun h => ?_) <;> (try simp only [decide_eq_true_eq, decide_eq_false_iff_not, Bool.not_eq_true', Bool.not_eq_false', beq_iff_eq, beq_eq_false_iff_ne] at h) <;> (first | (exfalso; first | omega | exact h trivial) | (conv => whnf)))
            | (refine CondG.mk (fun h => ?_) (fun h => ?_) <;> (try simp only [decide_eq_true_eq, decide_eq_false_iff_not, Bool.not_eq_true', Bool.not_eq_false', beq_iff_eq, beq_eq_false_iff_ne] at h) <;> (first | (exfalso; first | omega | exact h trivial) | (conv => whnf)))
            | (refine Ask.mk (by first | omega | (unfold roomOK; simp [cutRows]; done) | (unfold roomOK; simp [cutRows]; omega)) ?_; conv => whnf)
            | (refine SliceG.fr ?_; conv => whnf)
            | fail)
          refine row_at (k + 1 + m + 1) (by rw [toN]; omega) (by omega) ?_
          conv => whnf
          rw [hwm]
          refine .mk (by omega) ?_
          conv => whnf
          refine row_at (k + 1 + m) (by rw [toN]) (by omega) ?_
          conv => whnf
          refine .mk (fun h => ?_) (fun h => ?_)
          · have he2 : ¬ l[k + 1 + m + 1]'(by omega) = l[k + 1 + m]'(by omega) := fun e => by
              rw [← q1, ← q2] at e
              exact absurd ((eqAc.2 e).symm.trans (notT h)) (by decide)
            obtain ⟨n1, n2⟩ := cpt_new g1 (by omega) g2 g3 g4 he2
            clear h
            conv => whnf
            refine .mk (by omega) ?_
            conv => whnf
            refine row_at (k + 1 + m + 1) (by rw [toN]; omega) (by omega) ?_
            conv => whnf
            refine .mk (by omega) ?_
            conv => whnf
            refine row_at j toN (by omega) ?_
            conv => whnf
            refine count_next (j + 1, q.set j (l[k + 1 + m + 1]'(by omega))) hm (by
              rw [wrap_succ (n := l.length) (by omega) (by omega), wrap_succ (n := l.length) (by omega) (by omega), toN, List.map_set, ← q2]; rfl) ⟨by simp [g1], by simp only; omega, n1, n2⟩
          · have he2 : l[k + 1 + m + 1]'(by omega) = l[k + 1 + m]'(by omega) := by
              rw [← q1, ← q2]
              exact eqAc.1 (notF h)
            obtain ⟨n1, n2⟩ := cpt_same (by omega) g3 g4 he2
            clear h
            conv => whnf
            refine count_next (j, q) hm (by rw [wrap_succ (n := l.length) (by omega) (by omega)]; rfl) ⟨g1, by simp only; omega, n1, n2⟩
        · intro j q ⟨g1, g2, g3, g4⟩
          have hqm : (q.map encAc).length = q.length := List.length_map ..
          rw [List.drop_of_length_le (by omega), cptA, List.append_nil] at g4
          conv => whnf
          refine .mk (fun h => ?_) (fun h => ?_)
          · simp at h; omega
          conv => whnf
          refine .mk (by omega) ?_
          conv => whnf
          refine .vw ?_
          conv => whnf
          refine .mk (by rw [overR]; simp; omega) ?_
          conv => whnf
          refine .cut ⟨rfl, ?_⟩
          conv => whnf
          rw [toN]
          have hrow : ∀ z : List V, (overR (q.map encAc) (List.replicate ((q.map encAc).length - j) z) j).take j = (cpt l).map encAc := by
            intro z
            rw [← g4, List.map_take]; unfold overR
            rw [List.append_assoc, List.take_append_of_le_length (by simp; omega), List.take_take, Nat.min_self]
          rw [hrow]
          exact .frz 1 _ _ _ rfl (.weak [_] (.fro 1 _ _ rfl) rfl (Nat.le_refl _))
      · have he : ¬ l[k + 1] = l[k] := fun e => absurd ((eqAc.2 e).symm.trans h) (by decide)
        conv => whnf
        refine count_next () hk (by rw [wrap_succ (n := l.length) (by omega) (by omega)]; rfl) ?_
        intro i hi1 hi2
        rcases Nat.lt_or_ge i k with h3 | h3
        · exact hi i hi1 h3
        · have : i = k := by omega
          subst this; exact he
    · intro _ hi
      exact absurd (fun i h => hi i h (by omega)) hid2
end Go.Proofs.YtmdcgimpgoacdaaGreatDoor

/- Strings sorted (a few), and what numbers look like: Itoa by the kit's contract. -/
namespace Go.Proofs.YtmdcgimpgoacdaaGreatDoor
set_option linter.unusedVariables false
set_option linter.unusedSimpArgs false
open Abs

set_option maxRecDepth 100000 in
set_option maxHeartbeats 4000000 in
theorem isNaNO_pc (s : ByteArray) : PCp 178 [.c (.str s)] [] (.c (.bool false)) [] := by
  refine fn_sound (mt := mts) tab_fits tab_mixed Tryz.func178 (by rfl) (by kernel_rfl) (by kernel_rfl) Tryz.results178 (Nat.le_of_ble_eq_true (by kernel_rfl)) ?_
  conv => whnf
  exact finb (by simp)
set_option maxRecDepth 100000 in
set_option maxHeartbeats 4000000 in
theorem lessO_pc (a b : ByteArray) : PCp 135 [.c (.str a), .c (.str b)] [] (.c (.bool (ltB a b))) [] := by
  refine fn_sound (mt := mts) tab_fits tab_mixed Tryz.func135 (by rfl) (by kernel_rfl) (by kernel_rfl) Tryz.results135 (Nat.le_of_ble_eq_true (by kernel_rfl)) ?_
  conv => whnf
  repeat' (first
    | (refine Split.mk (fun h => ?_) (fun h => ?_) <;> (try simp only [decide_eq_true_eq, decide_eq_false_iff_not, Bool.not_eq_true', Bool.not_eq_false', beq_iff_eq, beq_eq_false_iff_ne, bne_iff_ne, bne_eq_false_iff_eq] at h) <;> (first | (exfalso; first | omega | exact h trivial) | (conv => whnf)))
    | (refine CondG.mk (fun h => ?_) (fun h => ?_) <;> (try simp only [decide_eq_true_eq, decide_eq_false_iff_not, Bool.not_eq_true', Bool.not_eq_false', beq_iff_eq, beq_eq_false_iff_ne, bne_iff_ne, bne_eq_false_iff_eq] at h) <;> (first | (exfalso; first | omega | exact h trivial) | (conv => whnf)))
    | (refine CallX.mk _ _ (by first | exact isNaNO_pc _) ?_; conv => whnf)
    | (refine CallG.mk _ _ (by first | exact isNaNO_pc _) ?_; conv => whnf)
    | (refine Ask.mk (by first | omega | (unfold roomOK; simp [cutRows]; done) | (unfold roomOK; simp [cutRows]; omega) | (simp [cutRows]; done) | (simp [cutRows]; omega)) ?_; conv => whnf)
    | (refine SliceG.fr ?_; conv => whnf)
    | (refine idx_at _ (by with_reducible rfl) (by first | assumption | omega) ?_; conv => whnf)
    | ((with_reducible refine row_map (by first | assumption | omega) ?_); conv => whnf)
    | ((with_reducible refine row_set (by first | assumption | omega | (simp only [List.length_set]; omega) | (simp; omega)) ?_); conv => whnf)
    | fail)
  all_goals exact finb (by simp_all [ltB])
set_option maxRecDepth 100000 in
set_option maxHeartbeats 4000000 in
theorem insS_pc (a b : Nat) (l : List ByteArray) (ha : a ≤ l.length) (hb : b ≤ l.length) (hl : l.length ≤ 1000000000) :
    PCp 160 [.c (.row 0), .c (.int .i64 a), .c (.int .i64 b)] [.row 9 1 (l.map encS)] (.tup []) [.row 9 1 ((insTo cmpS a (b - (a + 1)) l).map encS)] := by
  have hw : IntKind.i64.wrap ((a : Int) + 1) = ((a + 1 : Nat) : Int) := by rw [wrap_in (by omega) (by omega)]; rfl
  refine fn_sound (mt := mts) tab_fits tab_mixed Tryz.func160 (by rfl) (by kernel_rfl) (by kernel_rfl) Tryz.results160 (Nat.le_of_ble_eq_true (by kernel_rfl)) ?_
  conv => whnf
  rw [hw]
  refine loop_count (b - (a + 1)) [] [0, 1, 2, 6] (fun k (_ : Unit) => ⟨[(0, .c (.row 0)), (1, .c (.int .i64 a)), (2, .c (.int .i64 b)), (6, .c (.int .i64 ((a + 1 + k : Nat) : Int)))], [(0, .row 9 1 ((insTo cmpS a k l).map encS))], 1⟩) (fun k (_ : Unit) => True) (()) ?_ ?_ ?_
  · conv => whnf
    exact ⟨rfl, trivial⟩
  · intro k _ hk _
    have hlen := insTo_len cmpS a k l
    conv => whnf
    refine .mk (fun h => ?_) (fun h => ?_)
    rotate_left
    · simp at h; omega
    conv => whnf
    refine loop_meas2 (fun (j : Nat) (q : List ByteArray) => j) [] [0, 1, 2, 6, 7] (fun (j : Nat) (q : List ByteArray) => ⟨[(0, .c (.row 0)), (1, .c (.int .i64 a)), (2, .c (.int .i64 b)), (6, .c (.int .i64 ((a + 1 + k : Nat) : Int))), (7, .c (.int .i64 ((j : Nat) : Int)))], [(0, .row 9 1 (q.map encS))], 1⟩) (fun (j : Nat) (q : List ByteArray) => insDown cmpS a j q = insTo cmpS a (k + 1) l ∧ j < l.length ∧ q.length = l.length) (a + 1 + k) (insTo cmpS a k l) ?_ ?_
    · conv => whnf
      exact ⟨rfl, rfl, by omega, by omega⟩
    · intro j q ⟨h1, h2, h3⟩
      conv => whnf
      repeat' (first
        | (refine Split.mk (fun h => ?_) (fun h => ?_) <;> (try simp only [decide_eq_true_eq, decide_eq_false_iff_not, Bool.not_eq_true', Bool.not_eq_false', beq_iff_eq, beq_eq_false_iff_ne] at h) <;> (first | (exfalso; first | omega | exact h trivial) | (conv => whnf)))
        | (refine CondG.mk (fun h => ?_) (fun h => ?_) <;> (try simp only [decide_eq_true_eq, decide_eq_false_iff_not, Bool.not_eq_true', Bool.not_eq_false', beq_iff_eq, beq_eq_false_iff_ne] at h) <;> (first | (exfalso; first | omega | exact h trivial) | (conv => whnf)))
        | (refine Ask.mk (by first | omega | (unfold roomOK; simp [cutRows]; done) | (unfold roomOK; simp [cutRows]; omega)) ?_; conv => whnf)
        | (refine SliceG.fr ?_; conv => whnf)
        | fail)
      · -- one more to the left?
        obtain ⟨i, rfl⟩ : ∃ i, j = i + 1 := ⟨j - 1, by omega⟩
        have hw2 : IntKind.i64.wrap (((i + 1 : Nat) : Int) - 1) = ((i : Nat) : Int) := by rw [wrap_in (by omega) (by omega)]; omega
        refine .mk (by rw [List.length_map]; omega) ?_
        conv => whnf
        refine row_at (i + 1) toN (by omega) ?_
        conv => whnf
        rw [hw2]
        refine .mk (by rw [List.length_map]; omega) ?_
        conv => whnf
        refine row_at i toN (by omega) ?_
        conv => whnf
        repeat' (first
          | (refine Split.mk (fun h => ?_) (fun h => ?_) <;> (try simp only [decide_eq_true_eq, decide_eq_false_iff_not, Bool.not_eq_true', Bool.not_eq_false', beq_iff_eq, beq_eq_false_iff_ne, bne_iff_ne, bne_eq_false_iff_eq] at h) <;> (first | (exfalso; first | omega | exact h trivial) | (conv => whnf)))
          | (refine CondG.mk (fun h => ?_) (fun h => ?_) <;> (try simp only [decide_eq_true_eq, decide_eq_false_iff_not, Bool.not_eq_true', Bool.not_eq_false', beq_iff_eq, beq_eq_false_iff_ne, bne_iff_ne, bne_eq_false_iff_eq] at h) <;> (first | (exfalso; first | omega | exact h trivial) | (conv => whnf)))
          | (refine CallX.mk _ _ (by first | exact lessO_pc _ _) ?_; conv => whnf)
          | (refine CallG.mk _ _ (by first | exact lessO_pc _ _) ?_; conv => whnf)
          | (refine Ask.mk (by first | omega | (unfold roomOK; simp [cutRows]; done) | (unfold roomOK; simp [cutRows]; omega) | (simp [cutRows]; done) | (simp [cutRows]; omega)) ?_; conv => whnf)
          | (refine SliceG.fr ?_; conv => whnf)
          | (refine idx_at _ (by with_reducible rfl) (by first | assumption | omega) ?_; conv => whnf)
          | ((with_reducible refine row_map (by first | assumption | omega) ?_); conv => whnf)
          | ((with_reducible refine row_set (by first | assumption | omega | (simp only [List.length_set]; omega) | (simp; omega)) ?_); conv => whnf)
          | fail)
        · rw [insDown_step (by omega) (by omega) (cmp_lt.2 h)] at h1
          repeat' (first
            | (refine Split.mk (fun h => ?_) (fun h => ?_) <;> (try simp only [decide_eq_true_eq, decide_eq_false_iff_not, Bool.not_eq_true', Bool.not_eq_false', beq_iff_eq, beq_eq_false_iff_ne] at h) <;> (first | (exfalso; first | omega | exact h trivial) | (conv => whnf)))
            | (refine CondG.mk (fun h => ?_) (fun h => ?_) <;> (try simp only [decide_eq_true_eq, decide_eq_false_iff_not, Bool.not_eq_true', Bool.not_eq_false', beq_iff_eq, beq_eq_false_iff_ne] at h) <;> (first | (exfalso; first | omega | exact h trivial) | (conv => whnf)))
            | (refine Ask.mk (by first | omega | (unfold roomOK; simp [cutRows]; done) | (unfold roomOK; simp [cutRows]; omega)) ?_; conv => whnf)
            | (refine SliceG.fr ?_; conv => whnf)
            | fail)
          rw [hw2]
          refine .mk (by rw [List.length_map]; omega) ?_
          conv => whnf
          refine row_at i toN (by omega) ?_
          conv => whnf
          refine .mk (by rw [List.length_map]; omega) ?_
          conv => whnf
          refine row_at (i + 1) toN (by omega) ?_
          conv => whnf
          refine .mk (by rw [List.length_map]; omega) ?_
          conv => whnf
          refine row_at (i + 1) toN (by omega) ?_
          conv => whnf
          refine .mk (by rw [List.length_set, List.length_map]; omega) ?_
          conv => whnf
          refine .mk (encS (q[i]'(by omega))) (by rw [toN, toN, List.getElem?_set_ne (by omega)]; simp [show i < q.length by omega]) ?_
          conv => whnf
          refine meas_next (i, (q.set (i + 1) (q[i]'(by omega))).set i (q[i + 1]'(by omega))) (by simp only; omega) (by rw [toN, toN, hw2]; simp only [List.map_set]; rfl) ⟨h1, by simp only; omega, by simp [h3]⟩
        · rw [insDown_stop (by omega) (fun e => by rw [cmp_lt.1 e] at h; cases h)] at h1
          conv => whnf
          refine count_next () hk (by rw [h1, show IntKind.i64.wrap (((a + 1 + k : Nat) : Int) + 1) = ((a + 1 + (k + 1) : Nat) : Int) by rw [wrap_in (by omega) (by omega)]; omega]; rfl) trivial
      · rw [insDown_low (by omega)] at h1
        refine count_next () hk (by rw [h1, show IntKind.i64.wrap (((a + 1 + k : Nat) : Int) + 1) = ((a + 1 + (k + 1) : Nat) : Int) by rw [wrap_in (by omega) (by omega)]; omega]; rfl) trivial
  · intro _ _
    have hlen := insTo_len cmpS a (b - (a + 1)) l
    conv => whnf
    repeat' (first
      | (refine Split.mk (fun h => ?_) (fun h => ?_) <;> (try simp only [decide_eq_true_eq, decide_eq_false_iff_not, Bool.not_eq_true', Bool.not_eq_false', beq_iff_eq, beq_eq_false_iff_ne] at h) <;> (first | (exfalso; first | omega | exact h trivial) | (conv => whnf)))
      | (refine CondG.mk (fun h => ?_) (fun h => ?_) <;> (try simp only [decide_eq_true_eq, decide_eq_false_iff_not, Bool.not_eq_true', Bool.not_eq_false', beq_iff_eq, beq_eq_false_iff_ne] at h) <;> (first | (exfalso; first | omega | exact h trivial) | (conv => whnf)))
      | (refine Ask.mk (by first | omega | (unfold roomOK; simp [cutRows]; done) | (unfold roomOK; simp [cutRows]; omega)) ?_; conv => whnf)
      | (refine SliceG.fr ?_; conv => whnf)
      | fail)
    exact .mk ⟨rfl, rfl⟩

set_option maxRecDepth 100000 in
set_option maxHeartbeats 4000000 in
theorem sortS_pc (l : List ByteArray) (hl : l.length ≤ 12) : PCp 92 [.c (.row 0)] [.row 9 1 (l.map encS)] (.tup []) [.row 9 1 ((insSort cmpS l).map encS)] := by
  have hlm : (l.map encS).length = l.length := List.length_map ..
  have hst : ∀ lim : Int, PCp 126 [.c (.row 0), .c (.int .i64 0), .c (.int .i64 l.length), .c (.int .i64 lim)] [.row 9 1 (l.map encS)] (.tup []) [.row 9 1 ((insSort cmpS l).map encS)] := by
    intro lim
    have hw : IntKind.i64.wrap ((l.length : Int) - 0) = l.length := by rw [wrap_in (by omega) (by omega)]; omega
    refine fn_sound (mt := mts) tab_fits tab_mixed Tryz.func126 (by rfl) (by kernel_rfl) (by kernel_rfl) Tryz.results126 (Nat.le_of_ble_eq_true (by kernel_rfl)) ?_
    conv => whnf
    refine .un 1 ?_
    conv => whnf
    rw [hw]
    repeat' (first
      | (refine Split.mk (fun h => ?_) (fun h => ?_) <;> (try simp only [decide_eq_true_eq, decide_eq_false_iff_not, Bool.not_eq_true', Bool.not_eq_false', beq_iff_eq, beq_eq_false_iff_ne] at h) <;> (first | (exfalso; first | omega | exact h trivial) | (conv => whnf)))
      | (refine CondG.mk (fun h => ?_) (fun h => ?_) <;> (try simp only [decide_eq_true_eq, decide_eq_false_iff_not, Bool.not_eq_true', Bool.not_eq_false', beq_iff_eq, beq_eq_false_iff_ne] at h) <;> (first | (exfalso; first | omega | exact h trivial) | (conv => whnf)))
      | (refine Ask.mk (by first | omega | (unfold roomOK; simp [cutRows]; done) | (unfold roomOK; simp [cutRows]; omega)) ?_; conv => whnf)
      | (refine SliceG.fr ?_; conv => whnf)
      | fail)
    refine .mk _ _ (insS_pc 0 l.length l (Nat.zero_le _) (Nat.le_refl _) (by omega)) ?_
    conv => whnf
    exact .mk ⟨rfl, rfl⟩
  refine fn_sound (mt := mts) tab_fits tab_mixed Tryz.func92 (by rfl) (by kernel_rfl) (by kernel_rfl) Tryz.results92 (Nat.le_of_ble_eq_true (by kernel_rfl)) ?_
  conv => whnf
  rw [hlm, wrapU64 l.length (by omega)]
  obtain ⟨lim, hlim⟩ := bLen_ex l.length (by omega)
  repeat' (first
    | (refine Split.mk (fun h => ?_) (fun h => ?_) <;> (try simp only [decide_eq_true_eq, decide_eq_false_iff_not, Bool.not_eq_true', Bool.not_eq_false', beq_iff_eq, beq_eq_false_iff_ne] at h) <;> (first | (exfalso; first | omega | exact h trivial) | (conv => whnf)))
    | (refine CondG.mk (fun h => ?_) (fun h => ?_) <;> (try simp only [decide_eq_true_eq, decide_eq_false_iff_not, Bool.not_eq_true', Bool.not_eq_false', beq_iff_eq, beq_eq_false_iff_ne] at h) <;> (first | (exfalso; first | omega | exact h trivial) | (conv => whnf)))
    | (refine CallX.mk _ _ (by first | exact hlim | exact hst _) ?_; conv => whnf)
    | (refine CallG.mk _ _ (by first | exact hlim | exact hst _) ?_; conv => whnf)
    | (refine Ask.mk (by first | omega | (unfold roomOK; simp [cutRows]; done) | (unfold roomOK; simp [cutRows]; omega)) ?_; conv => whnf)
    | (refine SliceG.fr ?_; conv => whnf)
    | fail)
  exact .mk ⟨rfl, rfl⟩
/-! what a function of the library gives that makes new memory of its own -/
theorem Nx.grown {F : Nat → Prop} {φ : Nat → Option Value} {w : World} {N : Nat → Prop} {h : Nat → Option Ob} (k : Nat) (os : Array Obj) : Nx F φ w h N [] F φ (Sort.grow (w.drewN k) os) where
  hF _ h := h
  hφ _ _ h := h
  nφ _ _ h := .inl h
  os := rfl
  tape := rfl
  output := rfl
  drawn := Nat.le_add_right _ _
  size := by simp [Sort.grow, World.drewN]
  keep b hb hne := (hne (by simp only [Sort.grow, World.drewN]; rw [Array.getElem?_append_left hb])).elim
  nF b h := .inl h
  objs l o h := by simp [chGet] at h
  own l o b h := by simp [chGet] at h
  inj l l' o o' b h := by simp [chGet] at h
theorem PCs.of_laid {P : Program} {f : Nat} {args : List S} {r : S} {cargs : Array Value} {c : Value} (hfn : ∃ fn, P.funcs[f]? = some fn ∧ (fn.name == "runtime.NumGoroutine") = false ∧ fn.body.isNone = false)
    (ha : ∀ (F : Nat → Prop) (φ : Nat → Option Value) (w : World) (cs : Array Value), P2 (RS F φ w) cs.toList args → cs = cargs) (hr : ∀ (F : Nat → Prop) (φ : Nat → Option Value) (w : World), RS F φ w c r) {g : Nat × Array Value} (hg : g ∈ globs)
    (h : ∀ w, (∃ t f, w.heap[g.1]? = some (.cells g.2 t f)) → Calls P f cargs w fun e w' => e = .returned c ∧ ∃ k os, w' = Sort.grow (w.drewN k) os) : PCs P f args [] r [] := by
  refine ⟨hfn, fun F φ w cs hp hrp hφ => ?_⟩
  have := ha F φ w cs hp
  subst this
  refine (h w (hrp.tb g hg).2).mono ?_
  rintro e w' ⟨rfl, k, os, rfl⟩
  exact ⟨c, F, φ, r, [], ⟨rfl, rfl⟩, rfl, hr F φ _, Nx.grown k os⟩
def itoaB (n : Int) : ByteArray := ⟨(Lib.itoa n).toArray⟩
theorem itoa_pc (n : Int) (h0 : -9223372036854775808 ≤ n) (h1 : n ≤ 9223372036854775807) : PCp 72 [.c (.int .i64 n)] [] (.c (.str (itoaB n))) [] :=
  PCs.of_laid ⟨_, Tryz.func72, by kernel_rfl, by kernel_rfl⟩ (cargs := #[.int .i64 n]) (fun F φ w cs hp => by
    obtain ⟨x, xs, e1, r1, hp⟩ := hp.cons_inv
    have := hp.nil_inv
    subst this
    apply Array.ext'
    rw [e1, r1.int_inv]) (fun F φ w => .c (.tree (.str _))) (g := (1, (Lib.pow10Tab.map fun z => Value.int .u64 z).toArray)) (by simp [globs])
    (fun w ⟨t, fm, hc⟩ => Any.strconv_Itoa layItoa n h0 h1 w (by
      unfold Lib.TabIs World.var?
      rw [show (Tryz.prog).globalNamed "internal/strconv.uint64pow10" = some 1 from by kernel_rfl]
      simp only [Option.bind_some]
      rw [hc]))
end Go.Proofs.YtmdcgimpgoacdaaGreatDoor

/- Lists of acts joined: slices.Grow by the kit's contract, slices.Concat. -/
namespace Go.Proofs.YtmdcgimpgoacdaaGreatDoor
set_option linter.unusedVariables false
set_option linter.unusedSimpArgs false
open Abs

theorem nx_made {F : Nat → Prop} {φ : Nat → Option Value} {w w' : World} {h : Nat → Option Ob} {N : Nat → Prop} {id : Nat} (hN : N id) (hid : φ id = none) (c : Value) (hc1 : c.oneCell' = true) (ob : Ob) (h1 : w'.os = w.os) (h2 : w'.tape = w.tape) (h3 : w'.output = w.output) (h4 : w.drawn ≤ w'.drawn)
    (h5 : w.heap.size ≤ w'.heap.size) (h6 : ∀ b, b < w.heap.size → w'.heap[b]? = w.heap[b]?) (hb' : ∀ b, hb c = some b → w.heap.size ≤ b) (ho : RO F (addφ φ id c) w' id ob) : Nx F φ w h N [(id, ob)] F (addφ φ id c) w' := by
  have hg : ∀ l x, chGet [(id, ob)] l = some x → l = id ∧ x = ob := by
    intro l x hx
    simp only [chGet] at hx
    split at hx
    · rename_i e; subst e; cases hx; exact ⟨rfl, rfl⟩
    · cases hx
  refine ⟨fun _ h => h, ?_, ?_, h1, h2, h3, h4, h5, ?_, fun b h => .inl h, ?_, ?_, ?_⟩
  · intro l c' hl
    unfold addφ
    rw [if_neg]; exact hl
    intro e; subst e; rw [hid] at hl; cases hl
  · intro l c' hl
    unfold addφ at hl
    split at hl
    · rename_i e; subst e; cases hl; exact .inr ⟨hN, hc1⟩
    · exact .inl hl
  · intro b hb1 hne
    exact (hne (h6 b hb1)).elim
  · intro l x hx
    obtain ⟨rfl, rfl⟩ := hg l x hx
    exact ho
  · intro l x b hx _ hbk
    obtain ⟨rfl, rfl⟩ := hg l x hx
    refine .inl ?_
    simp only [blkOf, addφ, if_true, Option.bind_some] at hbk
    exact hb' b hbk
  · intro l l' x x' b hx hx' _ _ _ _
    rw [(hg l x hx).1, (hg l' x' hx').1]
theorem growAct_pc (n : Nat) (hn : n ≤ 100000) : PCp 85 [.c .nils, .c (.int .i64 n)] [] (.c (.row 0)) [.row 51 6 []] := by
  refine ⟨⟨_, Tryz.func85, by kernel_rfl, by kernel_rfl⟩, fun F φ w cs hp hrp hφ => ?_⟩
  have hφ0 : φ 0 = none := by
    cases h : φ 0 with
    | none => rfl
    | some c => have := hφ 0 c h; simp at this
  have hcs : cs = #[.slice none 0 0, .int .i64 n] := by
    obtain ⟨x, xs, e1, r1, hp⟩ := hp.cons_inv
    obtain ⟨y, ys, e2, r2, hp⟩ := hp.cons_inv
    have := hp.nil_inv
    subst this
    subst e2
    apply Array.ext'
    have hx : x = .slice none 0 0 := by
      cases r1 with | c hv => cases hv with | tree ht => cases ht; rfl
    rw [e1, hx, r2.int_inv]
  subst hcs
  obtain ⟨i0, z, d, hi, hsz, hby, hz, ⟨hzc, _⟩, _⟩ := tab_fits 51 _ rfl
  by_cases h0 : n = 0
  · subst h0
    refine (Any8.slices_Grow_room layGrowStoreAct none 0 0 0 w (by omega) (by omega) (by omega) (by omega)).mono ?_
    rintro e w' ⟨rfl, rfl⟩
    refine ⟨_, F, addφ φ 0 (.slice none 0 0), _, _, ⟨rfl, rfl⟩, rfl, .c (.row 0 _ (by simp [addφ])), nx_made (by simp) hφ0 _ rfl _ rfl rfl rfl (Nat.le_refl _) (Nat.le_refl _) (fun b h => rfl) (fun b h => by simp [hb] at h) ?_⟩
    exact RO.mkrow (c := .slice none 0 0) (xs := []) (by simp [addφ]) (fun b h => by simp [hb] at h) ⟨by simp, .inl ⟨rfl, rfl⟩⟩ P2.nil (by simp)
  · refine (Any8.slices_Grow_grow layGrowStoreAct i0 z hi hz (by rw [hsz]; decide) none 0 0 n [] w (by omega) (by omega) (by rw [hby]; show (0 + n) * 72 ≤ 140737488355328; omega) (by omega) (by simp) (fun _ => rfl) (fun a h => by cases h)).mono ?_
    rintro e w' ⟨he, hw⟩
    have hc1 := grownCap_ge w (0 + n) 0 51
    have hc2 := grownCap_le_maxLen w (0 + n) 0 51 (Nat.le_trans (show 0 + n ≤ 100000 by omega) (by decide))
    rw [show layGrowStoreAct_ren.t 25 = 51 from rfl] at he hw
    generalize grownCap w (0 + n) 0 51 = cap at hc1 hc2 he hw
    subst he
    have hblk : ∀ b, hb (Value.slice (some ⟨w.heap.size, 0, none⟩) 0 cap) = some b → b = w.heap.size := fun b h => by
      cases cap with
      | zero => simp [hb] at h
      | succ m =>
        have h : some w.heap.size = some b := h
        cases h; rfl
    have hsize : w'.heap.size = w.heap.size + 1 := by rw [hw]; exact Array.size_push ..
    have hold : ∀ b, b < w.heap.size → w'.heap[b]? = w.heap[b]? := fun b h => by rw [hw]; exact heap_alloc_old w.drew _ h
    have hnew := heap_alloc_new w.drew (.cells (([] : List Value).toArray ++ Builtin.zeroCells z.cells (0 + n - 0) ++ Builtin.zeroCells z.cells (cap - (0 + n))) 51)
    rw [← hw] at hnew
    refine ⟨_, F, addφ φ 0 (.slice (some ⟨w.heap.size, 0, none⟩) 0 cap), _, _, ⟨rfl, rfl⟩, rfl, .c (.row 0 _ (by simp [addφ])), nx_made (by simp) hφ0 _ rfl _ (by rw [hw]; rfl) (by rw [hw]; rfl) (by rw [hw]; rfl) (by rw [hw]; exact Nat.le_succ _) (by omega) hold (fun b h => by rw [hblk b h]; exact Nat.le_refl _) ?_⟩
    refine .inl ⟨.slice (some ⟨w.heap.size, 0, none⟩) 0 cap, [], by simp [addφ], fun b h hF => ?_, ⟨⟨by simp, .inr ⟨w.heap.size, cap, _, rfl, Nat.zero_le _, hnew, Nat.zero_le _, hc2, ?_, by simp⟩⟩, ?_⟩, P2.nil, by simp⟩
    · have := hrp.bd b hF
      rw [hblk b h] at this
      omega
    · have hz6 : z.cells.size = 6 := hzc
      simp only [Array.size_append, List.size_toArray, List.length_nil, size_zeroCells, hz6]
      omega
    · cases cap with
      | zero => omega
      | succ m => trivial
set_option maxRecDepth 100000 in
set_option maxHeartbeats 4000000 in
theorem concat_pc (a b : List Ac) (ha : a.length ≤ 1000) (hb' : b.length ≤ 1000) :
    PCp 45 [.c (.lst 1 [[.lst 6 (a.map encAc)], [.lst 6 (b.map encAc)]])] [] (.c (.row 0)) [.row 51 6 ((a ++ b).map encAc)] := by
  have ham : (a.map encAc).length = a.length := List.length_map ..
  have hbm : (b.map encAc).length = b.length := List.length_map ..
  have w1 : IntKind.i64.wrap (0 + ((a.map encAc).length : Int)) = ((a.map encAc).length : Int) := by rw [wrap_in (by omega) (by omega)]; omega
  have w2 : IntKind.i64.wrap (((a.map encAc).length : Int) + ((b.map encAc).length : Int)) = (((a.map encAc).length + (b.map encAc).length : Nat) : Int) := by rw [wrap_in (by omega) (by omega)]; omega
  have e1 : IntKind.i64.wrap 1 = 1 := by decide
  have e2 : IntKind.i64.wrap 2 = 2 := by decide
  refine fn_sound (mt := mts) tab_fits tab_mixed Tryz.func45 (by rfl) (by kernel_rfl) (by kernel_rfl) Tryz.results45 (Nat.le_of_ble_eq_true (by kernel_rfl)) ?_
  conv => whnf
  refine .un 3 ?_
  conv => whnf
  refine .mk (fun _ => ?_) (fun h => absurd h (by simp))
  conv => whnf
  refine .mk _ ⟨by decide, rfl⟩ ?_
  conv => whnf
  rw [w1]
  refine .mk (fun h => absurd h (by simp)) (fun _ => ?_)
  conv => whnf
  refine .mk (fun _ => ?_) (fun h => absurd h (by simp [e1]))
  conv => whnf
  refine .mk _ ⟨by decide, rfl⟩ ?_
  conv => whnf
  rw [w2]
  refine .mk (fun h => absurd h (by simp; omega)) (fun _ => ?_)
  conv => whnf
  refine .mk (fun h => absurd h (by simp [e1, e2])) (fun _ => ?_)
  conv => whnf
  refine .mk _ _ (growAct_pc _ (by omega)) ?_
  conv => whnf
  refine .un 3 ?_
  conv => whnf
  refine .mk (fun _ => ?_) (fun h => absurd h (by simp))
  conv => whnf
  refine .mk _ ⟨by decide, rfl⟩ ?_
  conv => whnf
  refine Ask.mk (by unfold roomOK; simp; omega) ?_
  conv => whnf
  refine .mk (fun _ => ?_) (fun h => absurd h (by simp [e1]))
  conv => whnf
  refine .mk _ ⟨by decide, rfl⟩ ?_
  conv => whnf
  refine Ask.mk (by unfold roomOK; simp; omega) ?_
  conv => whnf
  refine .mk (fun h => absurd h (by simp [e1, e2])) (fun _ => ?_)
  conv => whnf
  rw [List.map_append]
  exact .mk ⟨rfl, rfl⟩
end Go.Proofs.YtmdcgimpgoacdaaGreatDoor

/- Acts are made. -/
namespace Go.Proofs.YtmdcgimpgoacdaaGreatDoor
set_option linter.unusedVariables false
set_option linter.unusedSimpArgs false
open Abs

def sgn (n : Int) : Int := if n < 0 then -1 else if 0 < n then 1 else 0
set_option maxRecDepth 100000 in
set_option maxHeartbeats 4000000 in
theorem sign_pc (n : Int) : PCp 81 [.c (.int .i64 n)] [] (.c (.int .i64 (sgn n))) [] := by
  refine fn_sound (mt := mts) tab_fits tab_mixed Tryz.func81 (by rfl) (by kernel_rfl) (by kernel_rfl) Tryz.results81 (Nat.le_of_ble_eq_true (by kernel_rfl)) ?_
  conv => whnf
  repeat' (first
    | (refine Split.mk (fun h => ?_) (fun h => ?_) <;> (try simp only [decide_eq_true_eq, decide_eq_false_iff_not, Bool.not_eq_true', Bool.not_eq_false', beq_iff_eq, beq_eq_false_iff_ne] at h) <;> (first | (exfalso; first | omega | exact h trivial) | (conv => whnf)))
    | (refine CondG.mk (fun h => ?_) (fun h => ?_) <;> (try simp only [decide_eq_true_eq, decide_eq_false_iff_not, Bool.not_eq_true', Bool.not_eq_false', beq_iff_eq, beq_eq_false_iff_ne] at h) <;> (first | (exfalso; first | omega | exact h trivial) | (conv => whnf)))
    | (refine Ask.mk (by first | omega | (unfold roomOK; simp [cutRows]; done) | (unfold roomOK; simp [cutRows]; omega)) ?_; conv => whnf)
    | (refine SliceG.fr ?_; conv => whnf)
    | fail)
  all_goals exact fini (by simp_all [sgn] <;> omega)
/-- how the document orders acts -/
def ordC (a b : Ac) : Int :=
  if a.mo ≠ b.mo then sgn (IntKind.i64.wrap (a.mo - b.mo))
  else if a.drum ≠ b.drum then cmpS a.drum b.drum
  else if a.kd ≠ b.kd then sgn (IntKind.i64.wrap (a.kd - b.kd))
  else if a.ty ≠ b.ty then cmpS a.ty b.ty
  else if a.of ≠ b.of then cmpS a.of b.of
  else sgn (IntKind.i64.wrap (a.long - b.long))
theorem strEq {a b : ByteArray} : a.toList = b.toList ↔ a = b := ⟨toList_inj, fun h => by rw [h]⟩
set_option maxRecDepth 100000 in
set_option maxHeartbeats 4000000 in
theorem actOrder_pc (a b : Ac) : PCp 42 [.agg (encAc a), .agg (encAc b)] [] (.c (.int .i64 (ordC a b))) [] := by
  refine fn_sound (mt := mts) tab_fits tab_mixed Tryz.func42 (by rfl) (by kernel_rfl) (by kernel_rfl) Tryz.results42 (Nat.le_of_ble_eq_true (by kernel_rfl)) ?_
  conv => whnf
  repeat' (first
    | (refine Split.mk (fun h => ?_) (fun h => ?_) <;> (try simp only [decide_eq_true_eq, decide_eq_false_iff_not, Bool.not_eq_true', Bool.not_eq_false', beq_iff_eq, beq_eq_false_iff_ne] at h) <;> (first | (exfalso; first | omega | exact h trivial) | (conv => whnf)))
    | (refine CondG.mk (fun h => ?_) (fun h => ?_) <;> (try simp only [decide_eq_true_eq, decide_eq_false_iff_not, Bool.not_eq_true', Bool.not_eq_false', beq_iff_eq, beq_eq_false_iff_ne] at h) <;> (first | (exfalso; first | omega | exact h trivial) | (conv => whnf)))
    | (refine CallX.mk _ _ (by first | exact sign_pc _ | exact sCompare_pc _ _) ?_; conv => whnf)
    | (refine CallG.mk _ _ (by first | exact sign_pc _ | exact sCompare_pc _ _) ?_; conv => whnf)
    | (refine Ask.mk (by first | omega | (unfold roomOK; simp [cutRows]; done) | (unfold roomOK; simp [cutRows]; omega)) ?_; conv => whnf)
    | (refine SliceG.fr ?_; conv => whnf)
    | fail)
  all_goals refine fini ?_
  all_goals unfold ordC
  all_goals simp_all [strEq]
def oddV (L : List Int) (p lo hi : Int) : Int := if nextV L p 12 == 0 then pickV L (p + 1) [lo - 1, hi + 1, lo, hi, -1099511627776, 1099511627776] else rangeV L (p + 1) lo hi
set_option maxRecDepth 100000 in
set_option maxHeartbeats 4000000 in
theorem odd_ok {L : List Int} {p : Int} (h : StOk L p) (h2 : StOk L (p + 1)) (lo hi : Int) (hlo : small lo) (hhi : small hi) (hlh : lo ≤ hi) : PCp 40 [.c (.ptr 0 0), .c (.int .i64 lo), .c (.int .i64 hi)] [stO L p] (.c (.int .i64 (oddV L p lo hi))) [stO L (p + 1 + 1)] := by
  have w1 : IntKind.i64.wrap (lo - 1) = lo - 1 := wrap_in (by unfold small at *; omega) (by unfold small at *; omega)
  have w2 : IntKind.i64.wrap (hi + 1) = hi + 1 := wrap_in (by unfold small at *; omega) (by unfold small at *; omega)
  refine fn_sound (mt := mts) tab_fits tab_mixed Tryz.func40 (by rfl) (by kernel_rfl) (by kernel_rfl) Tryz.results40 (Nat.le_of_ble_eq_true (by kernel_rfl)) ?_
  conv => whnf
  repeat' (first
    | (refine Split.mk (fun h => ?_) (fun h => ?_) <;> (try simp only [decide_eq_true_eq, decide_eq_false_iff_not, Bool.not_eq_true', Bool.not_eq_false', beq_iff_eq, beq_eq_false_iff_ne] at h) <;> (first | (exfalso; first | omega | exact h trivial) | (conv => whnf)))
    | (refine CondG.mk (fun h => ?_) (fun h => ?_) <;> (try simp only [decide_eq_true_eq, decide_eq_false_iff_not, Bool.not_eq_true', Bool.not_eq_false', beq_iff_eq, beq_eq_false_iff_ne] at h) <;> (first | (exfalso; first | omega | exact h trivial) | (conv => whnf)))
    | (refine CallX.mk _ _ (by first | exact flip_ok h 12 (by omega) | exact range_ok h2 lo hi hlh hlo hhi | exact (by rw [w1, w2]; exact pick_ok h2 [lo - 1, hi + 1, lo, hi, -1099511627776, 1099511627776] (by simp) (by simp))) ?_; conv => whnf)
    | (refine CallG.mk _ _ (by first | exact flip_ok h 12 (by omega) | exact range_ok h2 lo hi hlh hlo hhi | exact (by rw [w1, w2]; exact pick_ok h2 [lo - 1, hi + 1, lo, hi, -1099511627776, 1099511627776] (by simp) (by simp))) ?_; conv => whnf)
    | (refine Ask.mk (by first | omega | (unfold roomOK; simp [cutRows]; done) | (unfold roomOK; simp [cutRows]; omega)) ?_; conv => whnf)
    | (refine SliceG.fr ?_; conv => whnf)
    | fail)
  · exact fini' (by rw [oddV, if_pos (by simpa using h)]) rfl
  · exact fini' (by rw [oddV, if_neg (by simpa using h)]) rfl
theorem pushAc (l : List Ac) (a b : Int) (c d e : ByteArray) (f : Int) : l.map encAc ++ [[.int .i64 a, .int .i64 b, .str c, .str d, .str e, .int .i64 f]] = (l ++ [(⟨a, b, c, d, e, f⟩ : Ac)]).map encAc := by simp [encAc]
theorem small_lit {n : Int} (h : -1000000 ≤ n ∧ n ≤ 1000000) : small n := by unfold small; omega
def bDa : ByteArray := ⟨#[100, 97]⟩
def bDb : ByteArray := ⟨#[100, 98]⟩
def names6 : List ByteArray := [bDa, bDb, ⟨#[100, 99]⟩, ⟨#[100, 100]⟩, ⟨#[]⟩, ⟨#[65]⟩]
theorem names_a (L : List Int) (p : Int) : someV L p [bDa, bDa, bDb, ⟨#[100, 99]⟩, ⟨#[100, 100]⟩] ∈ names6 := by
  have := someV_in L p [bDa, bDa, bDb, ⟨#[100, 99]⟩, ⟨#[100, 100]⟩] (by decide)
  generalize someV L p [bDa, bDa, bDb, ⟨#[100, 99]⟩, ⟨#[100, 100]⟩] = d at *
  simp only [List.mem_cons, List.not_mem_nil, or_false] at this
  unfold names6
  simp only [List.mem_cons, List.not_mem_nil, or_false]
  rcases this with h | h | h | h | h <;> simp [h]
theorem names_b (L : List Int) (p : Int) {e : ByteArray} (he : e ∈ names6) : someV L p [⟨#[]⟩, ⟨#[65]⟩, e] ∈ names6 := by
  have := someV_in L p [⟨#[]⟩, ⟨#[65]⟩, e] (by simp)
  generalize someV L p [⟨#[]⟩, ⟨#[65]⟩, e] = d at *
  simp only [List.mem_cons, List.not_mem_nil, or_false] at this
  rcases this with h | h | h
  · rw [h]; unfold names6; simp
  · rw [h]; unfold names6; simp
  · rw [h]; exact he
theorem names_push {l : List Ac} (h : ∀ x ∈ l, x.drum ∈ names6) {y : Ac} (hy : y.drum ∈ names6) : ∀ x ∈ l ++ [y], x.drum ∈ names6 := by
  intro x hx
  rcases List.mem_append.1 hx with h1 | h1
  · exact h x h1
  · simp at h1; subst h1; exact hy
set_option maxRecDepth 100000 in
set_option maxHeartbeats 4000000 in
theorem acts_pc {L : List Int} {p : Int} (hst : StOk L p) (hp : p ≤ 800000000) (n : Nat) (hn : n ≤ 14) :
    PCq 5 [.c (.ptr 0 0), .c (.int .i64 n)] [stO L p] fun r os => ∃ (l : List Ac) (p' : Int), r = .c (.lst 6 (l.map encAc)) ∧ os = [stO L p'] ∧ l.length ≤ n ∧ p ≤ p' ∧ p' ≤ p + 14 * n ∧ ∀ x ∈ l, x.drum ∈ names6 := by
  have hS : ∀ x : Int, p ≤ x → x ≤ p + 14 * 14 → StOk L x := fun x h3 h4 => ⟨hst.1, by have := hst.2.1; omega, by omega⟩
  refine fn_soundX (mt := mts) tab_fits tab_mixed Tryz.func5 (by rfl) (by kernel_rfl) (by kernel_rfl) Tryz.results5 (Nat.le_of_ble_eq_true (by kernel_rfl)) ?_
  conv => whnf
  refine loop_count3 (n) [.sl 5 51 6] [0, 5, 6, 9, 10] (fun k (at0 : Int) (q : Int) (l : List Ac) => ⟨[(0, .c (.ptr 0 0)), (5, .c (.row 1)), (6, .c (.int .i64 at0)), (9, .c (.int .i64 n)), (10, .c (.int .i64 k))], [(0, stO L q), (1, .row 51 6 (l.map encAc))], 2⟩) (fun k (at0 : Int) (q : Int) (l : List Ac) => l.length = k ∧ p ≤ q ∧ q ≤ p + 14 * k ∧ ∀ x ∈ l, x.drum ∈ names6) (0) (p) ([]) ?_ ?_ ?_
  · conv => whnf
    exact ⟨rfl, rfl, by omega, by omega, by intro x hx; cases hx⟩
  · intro k at0 q l hk ⟨h1, h2, h3, h4⟩
    have hlm : (l.map encAc).length = k := by rw [List.length_map, h1]
    have hQ : ∀ x : Int, q ≤ x → x ≤ q + 14 → StOk L x := fun x h3 h4 => hS x (by omega) (by omega)
    conv => whnf
    repeat' (first
      | (refine Split.mk (fun h => ?_) (fun h => ?_) <;> (try simp only [decide_eq_true_eq, decide_eq_false_iff_not, Bool.not_eq_true', Bool.not_eq_false', beq_iff_eq, beq_eq_false_iff_ne] at h) <;> (first | (exfalso; first | omega | exact h trivial) | (conv => whnf)))
      | (refine CondG.mk (fun h => ?_) (fun h => ?_) <;> (try simp only [decide_eq_true_eq, decide_eq_false_iff_not, Bool.not_eq_true', Bool.not_eq_false', beq_iff_eq, beq_eq_false_iff_ne] at h) <;> (first | (exfalso; first | omega | exact h trivial) | (conv => whnf)))
      | (refine CallX.mk _ _ (by first | exact pick_ok (hQ _ (by omega) (by omega)) [0, 1, 1, 5] (by decide) (by decide) | exact pick_ok (hQ _ (by omega) (by omega)) [2, 2, 2, 3, 4, 1] (by decide) (by decide) | exact some_ok (hQ _ (by omega) (by omega)) [bDa, bDa, bDb, ⟨#[100, 99]⟩, ⟨#[100, 100]⟩] (by decide) (by decide) | exact some_ok (hQ _ (by omega) (by omega)) [⟨#[116]⟩, ⟨#[117]⟩] (by decide) (by decide) | exact pick_ok (hQ _ (by omega) (by omega)) [60, 100] (by decide) (by decide) | exact pick_ok (hQ _ (by omega) (by omega)) [10, 20, 40, 60] (by decide) (by decide) | exact some_ok (hQ _ (by omega) (by omega)) [bDa, bDb, ⟨#[122, 122]⟩] (by decide) (by decide) | exact pick_ok (hQ _ (by omega) (by omega)) [5, 10] (by decide) (by decide) | exact flip_ok (hQ _ (by omega) (by omega)) 80 (by omega) | exact next_ok (hQ _ (by omega) (by omega)) 3 (by omega) | exact odd_ok (hQ _ (by omega) (by omega)) (hQ _ (by omega) (by omega)) 0 50 (small_lit (by decide)) (small_lit (by decide)) (by decide) | exact odd_ok (hQ _ (by omega) (by omega)) (hQ _ (by omega) (by omega)) 1 4 (small_lit (by decide)) (small_lit (by decide)) (by decide) | exact odd_ok (hQ _ (by omega) (by omega)) (hQ _ (by omega) (by omega)) 1 50 (small_lit (by decide)) (small_lit (by decide)) (by decide) | exact some_ok (hQ _ (by omega) (by omega)) [⟨#[]⟩, ⟨#[65]⟩, _] (by simp) (by simp) | exact some_ok (hQ _ (by omega) (by omega)) [⟨#[]⟩, ⟨#[116]⟩] (by decide) (by decide) | exact some_ok (hQ _ (by omega) (by omega)) [⟨#[]⟩, bDa] (by decide) (by decide)) ?_; conv => whnf)
      | (refine CallG.mk _ _ (by first | exact pick_ok (hQ _ (by omega) (by omega)) [0, 1, 1, 5] (by decide) (by decide) | exact pick_ok (hQ _ (by omega) (by omega)) [2, 2, 2, 3, 4, 1] (by decide) (by decide) | exact some_ok (hQ _ (by omega) (by omega)) [bDa, bDa, bDb, ⟨#[100, 99]⟩, ⟨#[100, 100]⟩] (by decide) (by decide) | exact some_ok (hQ _ (by omega) (by omega)) [⟨#[116]⟩, ⟨#[117]⟩] (by decide) (by decide) | exact pick_ok (hQ _ (by omega) (by omega)) [60, 100] (by decide) (by decide) | exact pick_ok (hQ _ (by omega) (by omega)) [10, 20, 40, 60] (by decide) (by decide) | exact some_ok (hQ _ (by omega) (by omega)) [bDa, bDb, ⟨#[122, 122]⟩] (by decide) (by decide) | exact pick_ok (hQ _ (by omega) (by omega)) [5, 10] (by decide) (by decide) | exact flip_ok (hQ _ (by omega) (by omega)) 80 (by omega) | exact next_ok (hQ _ (by omega) (by omega)) 3 (by omega) | exact odd_ok (hQ _ (by omega) (by omega)) (hQ _ (by omega) (by omega)) 0 50 (small_lit (by decide)) (small_lit (by decide)) (by decide) | exact odd_ok (hQ _ (by omega) (by omega)) (hQ _ (by omega) (by omega)) 1 4 (small_lit (by decide)) (small_lit (by decide)) (by decide) | exact odd_ok (hQ _ (by omega) (by omega)) (hQ _ (by omega) (by omega)) 1 50 (small_lit (by decide)) (small_lit (by decide)) (by decide) | exact some_ok (hQ _ (by omega) (by omega)) [⟨#[]⟩, ⟨#[65]⟩, _] (by simp) (by simp) | exact some_ok (hQ _ (by omega) (by omega)) [⟨#[]⟩, ⟨#[116]⟩] (by decide) (by decide) | exact some_ok (hQ _ (by omega) (by omega)) [⟨#[]⟩, bDa] (by decide) (by decide)) ?_; conv => whnf)
      | (refine Ask.mk (by first | omega | (unfold roomOK; simp [cutRows]; done) | (unfold roomOK; simp [cutRows]; omega)) ?_; conv => whnf)
      | (refine SliceG.fr ?_; conv => whnf)
      | fail)
    all_goals exact count_next (_, _, l ++ [(⟨_, _, _, _, _, _⟩ : Ac)]) hk (by rw [wrap_succ hk (by omega)]; simp only [List.map_append]; rfl) ⟨by simp [h1], by simp only; omega, by simp only; omega, names_push h4 (by first | exact names_a L _ | exact names_b L _ (names_a L _))⟩
  · intro at0 q l ⟨h1, h2, h3, h4⟩
    have h5 : ∀ x ∈ cpt (insSort ordC l), x.drum ∈ names6 := fun x hx => h4 x ((insSort_perm ordC l).mem_iff.1 (mem_cpt hx))
    have hlm : (l.map encAc).length = n := by rw [List.length_map, h1]
    conv => whnf
    repeat' (first
      | (refine Split.mk (fun h => ?_) (fun h => ?_) <;> (try simp only [decide_eq_true_eq, decide_eq_false_iff_not, Bool.not_eq_true', Bool.not_eq_false', beq_iff_eq, beq_eq_false_iff_ne] at h) <;> (first | (exfalso; first | omega | exact h trivial) | (conv => whnf)))
      | (refine CondG.mk (fun h => ?_) (fun h => ?_) <;> (try simp only [decide_eq_true_eq, decide_eq_false_iff_not, Bool.not_eq_true', Bool.not_eq_false', beq_iff_eq, beq_eq_false_iff_ne] at h) <;> (first | (exfalso; first | omega | exact h trivial) | (conv => whnf)))
      | (refine CallX.mk _ _ (by first | exact stAct_pc _ ordC actOrder_pc l (by omega)) ?_; conv => whnf)
      | (refine CallG.mk _ _ (by first | exact stAct_pc _ ordC actOrder_pc l (by omega)) ?_; conv => whnf)
      | (refine Ask.mk (by first | omega | (unfold roomOK; simp [cutRows]; done) | (unfold roomOK; simp [cutRows]; omega)) ?_; conv => whnf)
      | (refine SliceG.fr ?_; conv => whnf)
      | fail)
    have hle := cpt_len (insSort ordC l)
    rw [insSort_len] at hle
    obtain ⟨ob, ⟨rows, rfl⟩ | rfl, hc⟩ := cptAc_pc (insSort ordC l) (by rw [insSort_len]; omega)
    · refine .mk _ _ hc ?_
      conv => whnf
      exact .mk _ _ ⟨_, _, rfl, rfl, by omega, h2, by omega, h5⟩ (.mk ⟨rfl, rfl⟩)
    · refine .mk _ _ hc ?_
      conv => whnf
      exact .mk _ _ ⟨_, _, rfl, rfl, by omega, h2, by omega, h5⟩ (.mk ⟨rfl, rfl⟩)
end Go.Proofs.YtmdcgimpgoacdaaGreatDoor

/- A store, as the program follows it. -/
namespace Go.Proofs.YtmdcgimpgoacdaaGreatDoor
set_option linter.unusedVariables false
set_option linter.unusedSimpArgs false
open Abs

abbrev bE : ByteArray := ⟨#[]⟩
abbrev ekS : ByteArray → S := fun b => .c (.str b)
abbrev evD : ByteArray × Int → S := fun v => .agg [.str v.1, .int .i64 v.2]
abbrev evK : ByteArray → S := fun v => .c (.str v)
abbrev evI : Int → S := fun v => .c (.int .i64 v)
structure Sto where
  d : SM ByteArray (ByteArray × Int)
  k : SM ByteArray ByteArray
structure Sto.ok (s : Sto) : Prop where
  d : s.d.ok
  k : s.k.ok
abbrev stoD (s : Sto) : Ob := smO ekS evD s.d
abbrev stoK (s : Sto) : Ob := smO ekS evK s.k
def takeS (s : Sto) (x : Ac) : Sto × ByteArray × Int :=
  if x.kd = 1 ∨ x.kd = 3 then
    if (s.k.get x.drum).isSome then (s, bE, 6)
    else if x.kd = 1 then (⟨s.d.put x.drum (x.ty, x.long), s.k.put x.drum x.ty⟩, x.ty, 0)
    else if (s.k.get x.of).isSome then (⟨s.d.put x.drum ((s.k.get x.of).getD bE, x.long), s.k.put x.drum ((s.k.get x.of).getD bE)⟩, (s.k.get x.of).getD bE, 0)
    else (s, bE, 8)
  else if (s.d.get x.drum).isSome then
    if x.kd = 2 ∧ ((s.d.get x.drum).getD (bE, 0)).2 < x.long then (s, bE, 12)
    else if x.kd = 4 ∨ IntKind.i64.wrap (((s.d.get x.drum).getD (bE, 0)).2 - x.long) = 0 then (⟨s.d.del x.drum, s.k⟩, ((s.d.get x.drum).getD (bE, 0)).1, 0)
    else (⟨s.d.put x.drum (((s.d.get x.drum).getD (bE, 0)).1, IntKind.i64.wrap (((s.d.get x.drum).getD (bE, 0)).2 - x.long)), s.k⟩, ((s.d.get x.drum).getD (bE, 0)).1, 0)
  else (s, bE, 8)
set_option maxRecDepth 100000 in
set_option maxHeartbeats 4000000 in
theorem take_pc (s : Sto) (hs : s.ok) (x : Ac) :
    PCp 86 [.c (.ptr 0 0), .agg (encAc x)] [stBox, stoD s, stoK s] (.tup [.c (.str (takeS s x).2.1), .c (.int .i64 (takeS s x).2.2)]) [stBox, stoD (takeS s x).1, stoK (takeS s x).1] := by
  refine fn_sound (mt := mts) tab_fits tab_mixed Tryz.func86 (by rfl) (by kernel_rfl) (by kernel_rfl) Tryz.results86 (Nat.le_of_ble_eq_true (by kernel_rfl)) ?_
  conv => whnf
  repeat' (first
    | (refine Split.mk (fun h => ?_) (fun h => ?_) <;> (try simp only [decide_eq_true_eq, decide_eq_false_iff_not, Bool.not_eq_true', Bool.not_eq_false', beq_iff_eq, beq_eq_false_iff_ne] at h) <;> (first | (exfalso; first | omega | exact h trivial) | (conv => whnf)))
    | (refine CondG.mk (fun h => ?_) (fun h => ?_) <;> (try simp only [decide_eq_true_eq, decide_eq_false_iff_not, Bool.not_eq_true', Bool.not_eq_false', beq_iff_eq, beq_eq_false_iff_ne] at h) <;> (first | (exfalso; first | omega | exact h trivial) | (conv => whnf)))
    | (refine Ask.mk (by first | omega | (unfold roomOK; simp [cutRows]; done) | (unfold roomOK; simp [cutRows]; omega)) ?_; conv => whnf)
    | (refine SliceG.fr ?_; conv => whnf)
    | ((with_reducible refine sm_look (ek := ekS) (ev := evD) keyStr s.d x.drum (bE, 0) ?_ ?_); exact rfl; conv => whnf)
    | ((with_reducible refine sm_look (ek := ekS) (ev := evK) keyStr s.k _ bE ?_ ?_); exact rfl; conv => whnf)
    | ((with_reducible refine sm_del (ek := ekS) (ev := evD) keyStr s.d x.drum ?_); conv => whnf)
    | ((with_reducible refine sm_upd (ek := ekS) (ev := evD) keyStr s.d x.drum (_, _) ?_); conv => whnf)
    | ((with_reducible refine sm_entry (ek := ekS) (ev := evD) keyStr s.d x.drum (bE, 0) ?_ ?_); exact rfl; conv => whnf)
    | ((with_reducible refine sm_entry (ek := ekS) (ev := evK) keyStr s.k x.drum bE ?_ ?_); exact rfl; conv => whnf)
    | ((with_reducible refine sm_stamp (ek := ekS) (ev := evD) hs.d x.drum _ (_, _) ?_ ?_); exact rfl; conv => whnf)
    | ((with_reducible refine sm_stamp (ek := ekS) (ev := evK) hs.k x.drum _ _ ?_ ?_); exact rfl; conv => whnf)
    | fail)
  all_goals try ((with_reducible refine sm_upd (ek := ekS) (ev := evD) keyStr s.d x.drum (((s.d.get x.drum).getD (bE, 0)).1, IntKind.i64.wrap (((s.d.get x.drum).getD (bE, 0)).2 - x.long)) ?_); conv => whnf)
  all_goals first
    | (have hT : takeS s x = (s, bE, 6) := by (unfold takeS; simp_all; done)
       rw [hT]; exact .mk ⟨rfl, rfl⟩)
    | (have hT : takeS s x = (s, bE, 8) := by (unfold takeS; simp_all; done)
       rw [hT]; exact .mk ⟨rfl, rfl⟩)
    | (have hT : takeS s x = (s, bE, 12) := by (unfold takeS; simp_all; done)
       rw [hT]; exact .mk ⟨rfl, rfl⟩)
    | (have hT : takeS s x = (⟨s.d.put x.drum (x.ty, x.long), s.k.put x.drum x.ty⟩, x.ty, 0) := by (unfold takeS; simp_all; done)
       rw [hT]; exact .mk ⟨rfl, rfl⟩)
    | (have hT : takeS s x = (⟨s.d.put x.drum ((s.k.get x.of).getD bE, x.long), s.k.put x.drum ((s.k.get x.of).getD bE)⟩, (s.k.get x.of).getD bE, 0) := by (unfold takeS; simp_all; done)
       rw [hT]; exact .mk ⟨rfl, rfl⟩)
    | (have hT : takeS s x = (⟨s.d.del x.drum, s.k⟩, ((s.d.get x.drum).getD (bE, 0)).1, 0) := by (unfold takeS; simp_all; done)
       rw [hT]; exact .mk ⟨rfl, rfl⟩)
    | (have hT : takeS s x = (⟨s.d.put x.drum (((s.d.get x.drum).getD (bE, 0)).1, IntKind.i64.wrap (((s.d.get x.drum).getD (bE, 0)).2 - x.long)), s.k⟩, ((s.d.get x.drum).getD (bE, 0)).1, 0) := by (unfold takeS; simp_all; done)
       rw [hT]; exact .mk ⟨rfl, rfl⟩)
end Go.Proofs.YtmdcgimpgoacdaaGreatDoor

/- What was used, as the program counts it. -/
namespace Go.Proofs.YtmdcgimpgoacdaaGreatDoor
set_option linter.unusedVariables false
set_option linter.unusedSimpArgs false
open Abs

abbrev Wi := Int × Int
abbrev encW (w : Wi) : List V := [.int .i64 w.1, .int .i64 w.2]
def inW (w : Wi) (n : Int) : Bool := decide (w.1 ≤ n ∧ n < w.2)
def winB (w : Wi) : Bool := decide (0 ≤ w.1 ∧ w.1 ≤ w.2 ∧ w.2 ≤ 345686400000)
def winErr (l : List Ac) (kind : ByteArray) (w : Wi) : Int := if actsFault l ≠ 0 then actsFault l else if !keyB kind then 5 else if !winB w then 1 else 0
/-- the store behind the first acts -/
def stoNil : Sto := ⟨SM.nil, SM.nil⟩
def stoAt (l : List Ac) : Nat → Sto
  | 0 => stoNil
  | k + 1 => (takeS (stoAt l k) (l.getD k ⟨0, 0, bE, bE, bE, 0⟩)).1
theorem takeS_ok {s : Sto} (hs : s.ok) (x : Ac) : (takeS s x).1.ok := by
  unfold takeS
  repeat' split
  all_goals first
    | exact hs
    | exact ⟨hs.d.put _ _, hs.k.put _ _⟩
    | exact ⟨hs.d.del _, hs.k⟩
    | exact ⟨hs.d.put _ _, hs.k⟩
theorem stoAt_ok (l : List Ac) : ∀ k, (stoAt l k).ok
  | 0 => ⟨SM.ok_nil, SM.ok_nil⟩
  | k + 1 => takeS_ok (stoAt_ok l k) _
def usedStep (kind : ByteArray) (w : Wi) (x : Ac) (of : ByteArray) (e n : Int) : Int :=
  if e ≠ 0 ∨ of ≠ kind ∨ inW w x.mo = false then n else if x.kd = 2 then IntKind.i64.wrap (n + x.long) else if x.kd = 3 then IntKind.i64.wrap (n - x.long) else n
def usedAt (l : List Ac) (kind : ByteArray) (w : Wi) : Nat → Int
  | 0 => 0
  | k + 1 => usedStep kind w (l.getD k ⟨0, 0, bE, bE, bE, 0⟩) (takeS (stoAt l k) (l.getD k ⟨0, 0, bE, bE, bE, 0⟩)).2.1 (takeS (stoAt l k) (l.getD k ⟨0, 0, bE, bE, bE, 0⟩)).2.2 (usedAt l kind w k)
def usedV (l : List Ac) (kind : ByteArray) (w : Wi) : Int := if winErr l kind w = 0 then usedAt l kind w l.length else 0
end Go.Proofs.YtmdcgimpgoacdaaGreatDoor

/- The least stock, as the program finds it. -/
namespace Go.Proofs.YtmdcgimpgoacdaaGreatDoor
set_option linter.unusedVariables false
set_option linter.unusedSimpArgs false
open Abs

abbrev DE := Nat × ByteArray × (ByteArray × Int)
def sumK (kind : ByteArray) : List DE → Int
  | [] => 0
  | e :: r => sumK kind r + (if e.2.2.1 = kind then e.2.2.2 else 0)
theorem sumK_perm (kind : ByteArray) {l m : List DE} (h : l.Perm m) : sumK kind l = sumK kind m := by
  induction h with
  | nil => rfl
  | cons x _ ih => simp only [sumK, ih]
  | swap x y l => simp only [sumK]; omega
  | trans _ _ h1 h2 => exact h1.trans h2
def LongOk (s : Sto) : Prop := (∀ e ∈ s.d.es, 0 < e.2.2.2 ∧ e.2.2.2 ≤ 200000) ∧ s.d.es.length ≤ 1000000
theorem sumK_in (kind : ByteArray) : ∀ (l : List DE), (∀ e ∈ l, 0 < e.2.2.2 ∧ e.2.2.2 ≤ 200000) → 0 ≤ sumK kind l ∧ sumK kind l ≤ 200000 * l.length
  | [], _ => by simp [sumK]
  | e :: r, h => by
    have ih := sumK_in kind r (fun e he => h e (by simp [he]))
    have := h e (by simp)
    simp only [sumK, List.length_cons]
    split <;> omega
/-- what is turned by an act: the number now, the least, begun -/
structure Lo where
  now : Int
  least : Int
  begun : Bool
def lowStep (l : List Ac) (kind : ByteArray) (w : Wi) (i : Nat) (of : ByteArray) (e tot : Int) (q : Lo) : Lo :=
  let mo := (l.getD i ⟨0, 0, bE, bE, bE, 0⟩).mo
  let q1 : Lo := if w.1 < mo ∧ q.begun = false then ⟨q.now, q.now, true⟩ else q
  if w.2 ≤ mo then q1
  else
    let q2 : Lo := if e = 0 ∧ of = kind then ⟨tot, q1.least, q1.begun⟩ else q1
    if q2.begun = true ∧ ((i : Int) = (l.length : Int) - 1 ∨ mo < (l.getD (i + 1) ⟨0, 0, bE, bE, bE, 0⟩).mo) then ⟨q2.now, if q2.now < q2.least then q2.now else q2.least, true⟩ else q2
end Go.Proofs.YtmdcgimpgoacdaaGreatDoor

/- The least stock, as the program finds it: all acts. -/
namespace Go.Proofs.YtmdcgimpgoacdaaGreatDoor
set_option linter.unusedVariables false
set_option linter.unusedSimpArgs false
open Abs

abbrev acD : Ac := ⟨0, 0, bE, bE, bE, 0⟩
def lowAt (l : List Ac) (kind : ByteArray) (w : Wi) : Nat → Lo
  | 0 => ⟨0, 0, false⟩
  | k + 1 => lowStep l kind w k (takeS (stoAt l k) (l.getD k acD)).2.1 (takeS (stoAt l k) (l.getD k acD)).2.2 (sumK kind (stoAt l (k + 1)).d.es) (lowAt l kind w k)
def lowErr (l : List Ac) (kind : ByteArray) (w : Wi) : Int := if winErr l kind w = 0 ∧ w.1 = w.2 then 1 else winErr l kind w
def lowRes (l : List Ac) (kind : ByteArray) (w : Wi) : Int := if (lowAt l kind w l.length).begun then (lowAt l kind w l.length).least else (lowAt l kind w l.length).now
def lowV (l : List Ac) (kind : ByteArray) (w : Wi) : Int := if lowErr l kind w = 0 then lowRes l kind w else 0
end Go.Proofs.YtmdcgimpgoacdaaGreatDoor

/- The document's store. -/
namespace Go.Proofs.YtmdcgimpgoacdaaGreatDoor
set_option linter.unusedVariables false
set_option linter.unusedSimpArgs false
open Abs

structure Rto where
  l : SM ByteArray Int
  k : SM ByteArray ByteArray
structure Rto.ok (s : Rto) : Prop where
  l : s.l.ok
  k : s.k.ok
abbrev rtoL (s : Rto) : Ob := smO ekS evI s.l
abbrev rtoK (s : Rto) : Ob := smO ekS evK s.k
/-- the store behind an act, what was cut, the error -/
def doR (s : Rto) (x : Ac) : Rto × Int × Int :=
  if x.kd = 1 then
    if (s.k.get x.drum).isSome then (s, 0, 6) else (⟨s.l.put x.drum x.long, s.k.put x.drum x.ty⟩, 0, 0)
  else if x.kd = 2 then
    if (s.l.get x.drum).getD 0 = 0 then (s, 0, 8)
    else if (s.l.get x.drum).getD 0 < x.long then (s, 0, 12)
    else (⟨s.l.put x.drum (IntKind.i64.wrap ((s.l.get x.drum).getD 0 - x.long)), s.k⟩, x.long, 0)
  else if x.kd = 3 then
    if (s.k.get x.drum).isSome then (s, 0, 6)
    else if (s.k.get x.of).isSome then (⟨s.l.put x.drum x.long, s.k.put x.drum ((s.k.get x.of).getD bE)⟩, IntKind.i64.wrap (0 - x.long), 0)
    else (s, 0, 8)
  else if (s.l.get x.drum).getD 0 = 0 then (s, 0, 8)
  else (⟨s.l.put x.drum 0, s.k⟩, 0, 0)
set_option maxRecDepth 100000 in
set_option maxHeartbeats 4000000 in
theorem do_no (s : Rto) (hs : s.ok) (x : Ac) (cs : List Int) (hc : cs.length ≤ 1000000) (he : (doR s x).2.2 ≠ 0) :
    PCp 94 [.c (.ptr 0 0), .agg (encAc x)] [.box [.mp 1, .mp 2, .row 3], rtoL s, rtoK s, .row 3 1 (cs.map encI)] (.c (.int .i64 (doR s x).2.2)) [.box [.mp 1, .mp 2, .row 3], rtoL s, rtoK s, .row 3 1 (cs.map encI)] := by
  have hcm : (cs.map encI).length = cs.length := List.length_map ..
  refine fn_sound (mt := mts) tab_fits tab_mixed Tryz.func94 (by rfl) (by kernel_rfl) (by kernel_rfl) Tryz.results94 (Nat.le_of_ble_eq_true (by kernel_rfl)) ?_
  conv => whnf
  repeat' (first
    | (refine Split.mk (fun h => ?_) (fun h => ?_) <;> (try simp only [decide_eq_true_eq, decide_eq_false_iff_not, Bool.not_eq_true', Bool.not_eq_false', beq_iff_eq, beq_eq_false_iff_ne, bne_iff_ne, bne_eq_false_iff_eq] at h) <;> (first | (exfalso; first | omega | exact h trivial) | (conv => whnf)))
    | (refine CondG.mk (fun h => ?_) (fun h => ?_) <;> (try simp only [decide_eq_true_eq, decide_eq_false_iff_not, Bool.not_eq_true', Bool.not_eq_false', beq_iff_eq, beq_eq_false_iff_ne, bne_iff_ne, bne_eq_false_iff_eq] at h) <;> (first | (exfalso; first | omega | exact h trivial) | (conv => whnf)))
    | (refine Ask.mk (by first | omega | (unfold roomOK; simp [cutRows]; done) | (unfold roomOK; simp [cutRows]; omega) | (simp [cutRows]; done) | (simp [cutRows]; omega)) ?_; conv => whnf)
    | (refine SliceG.fr ?_; conv => whnf)
    | (refine idx_at _ (by with_reducible rfl) (by first | assumption | omega) ?_; conv => whnf)
    | ((with_reducible refine row_map (by first | assumption | omega) ?_); conv => whnf)
    | ((with_reducible refine row_set (by first | assumption | omega | (simp only [List.length_set]; omega) | (simp; omega)) ?_); conv => whnf)
    | ((with_reducible refine sm_look (ek := ekS) (ev := evK) keyStr s.k _ bE ?_ ?_); exact rfl; conv => whnf)
    | ((with_reducible refine sm_look (ek := ekS) (ev := evI) keyStr s.l x.drum 0 ?_ ?_); exact rfl; conv => whnf)
    | fail)
  all_goals first
    | (exfalso; apply he; unfold doR; (repeat' split) <;> first | rfl | (exfalso; first | omega | (simp_all; done) | (simp_all; omega)))
    | (have hT : (doR s x).2.2 = 6 := by (unfold doR; (repeat' split) <;> first | rfl | (exfalso; first | omega | (simp_all; done) | (simp_all; omega)))
       rw [hT]; exact .mk ⟨rfl, rfl⟩)
    | (have hT : (doR s x).2.2 = 8 := by (unfold doR; (repeat' split) <;> first | rfl | (exfalso; first | omega | (simp_all; done) | (simp_all; omega)))
       rw [hT]; exact .mk ⟨rfl, rfl⟩)
    | (have hT : (doR s x).2.2 = 12 := by (unfold doR; (repeat' split) <;> first | rfl | (exfalso; first | omega | (simp_all; done) | (simp_all; omega)))
       rw [hT]; exact .mk ⟨rfl, rfl⟩)
set_option maxRecDepth 100000 in
set_option maxHeartbeats 4000000 in
theorem do_yes (s : Rto) (hs : s.ok) (x : Ac) (cs : List Int) (hc : cs.length ≤ 1000000) (he : (doR s x).2.2 = 0) :
    PCp 94 [.c (.ptr 0 0), .agg (encAc x)] [.box [.mp 1, .mp 2, .row 3], rtoL s, rtoK s, .row 3 1 (cs.map encI)] (.c (.int .i64 0)) [.box [.mp 1, .mp 2, .row 4], rtoL (doR s x).1, rtoK (doR s x).1, .dead, .row 3 1 ((cs ++ [(doR s x).2.1]).map encI)] := by
  have hcm : (cs.map encI).length = cs.length := List.length_map ..
  refine fn_sound (mt := mts) tab_fits tab_mixed Tryz.func94 (by rfl) (by kernel_rfl) (by kernel_rfl) Tryz.results94 (Nat.le_of_ble_eq_true (by kernel_rfl)) ?_
  conv => whnf
  repeat' (first
    | (refine Split.mk (fun h => ?_) (fun h => ?_) <;> (try simp only [decide_eq_true_eq, decide_eq_false_iff_not, Bool.not_eq_true', Bool.not_eq_false', beq_iff_eq, beq_eq_false_iff_ne, bne_iff_ne, bne_eq_false_iff_eq] at h) <;> (first | (exfalso; first | omega | exact h trivial) | (conv => whnf)))
    | (refine CondG.mk (fun h => ?_) (fun h => ?_) <;> (try simp only [decide_eq_true_eq, decide_eq_false_iff_not, Bool.not_eq_true', Bool.not_eq_false', beq_iff_eq, beq_eq_false_iff_ne, bne_iff_ne, bne_eq_false_iff_eq] at h) <;> (first | (exfalso; first | omega | exact h trivial) | (conv => whnf)))
    | (refine Ask.mk (by first | omega | (unfold roomOK; simp [cutRows]; done) | (unfold roomOK; simp [cutRows]; omega) | (simp [cutRows]; done) | (simp [cutRows]; omega)) ?_; conv => whnf)
    | (refine SliceG.fr ?_; conv => whnf)
    | (refine idx_at _ (by with_reducible rfl) (by first | assumption | omega) ?_; conv => whnf)
    | ((with_reducible refine row_map (by first | assumption | omega) ?_); conv => whnf)
    | ((with_reducible refine row_set (by first | assumption | omega | (simp only [List.length_set]; omega) | (simp; omega)) ?_); conv => whnf)
    | ((with_reducible refine sm_look (ek := ekS) (ev := evK) keyStr s.k _ bE ?_ ?_); exact rfl; conv => whnf)
    | ((with_reducible refine sm_look (ek := ekS) (ev := evI) keyStr s.l x.drum 0 ?_ ?_); exact rfl; conv => whnf)
    | ((with_reducible refine sm_entry (ek := ekS) (ev := evI) keyStr s.l x.drum 0 ?_ ?_); exact rfl; conv => whnf)
    | ((with_reducible refine sm_entry (ek := ekS) (ev := evK) keyStr s.k x.drum bE ?_ ?_); exact rfl; conv => whnf)
    | ((with_reducible refine sm_stamp (ek := ekS) (ev := evI) hs.l x.drum _ _ ?_ ?_); exact rfl; conv => whnf)
    | ((with_reducible refine sm_stamp (ek := ekS) (ev := evK) hs.k x.drum _ _ ?_ ?_); exact rfl; conv => whnf)
    | ((with_reducible refine sm_upd (ek := ekS) (ev := evI) keyStr s.l x.drum _ ?_); conv => whnf)
    | fail)
  all_goals first
    | (exfalso; refine absurd he ?_; unfold doR; (repeat' split) <;> first | (simp; done) | (exfalso; first | omega | (simp_all; done) | (simp_all; omega)))
    | (have hT : doR s x = (⟨s.l.put x.drum x.long, s.k.put x.drum x.ty⟩, 0, 0) := by (unfold doR; (repeat' split) <;> first | rfl | (exfalso; first | omega | (simp_all; done) | (simp_all; omega)))
       rw [hT, List.map_append]; exact .mk ⟨rfl, rfl⟩)
    | (have hT : doR s x = (⟨s.l.put x.drum (IntKind.i64.wrap ((s.l.get x.drum).getD 0 - x.long)), s.k⟩, x.long, 0) := by (unfold doR; (repeat' split) <;> first | rfl | (exfalso; first | omega | (simp_all; done) | (simp_all; omega)))
       rw [hT, List.map_append]; exact .mk ⟨rfl, rfl⟩)
    | (have hT : doR s x = (⟨s.l.put x.drum x.long, s.k.put x.drum ((s.k.get x.of).getD bE)⟩, IntKind.i64.wrap (0 - x.long), 0) := by (unfold doR; (repeat' split) <;> first | rfl | (exfalso; first | omega | (simp_all; done) | (simp_all; omega)))
       rw [hT, List.map_append]; exact .mk ⟨rfl, rfl⟩)
    | (have hT : doR s x = (⟨s.l.put x.drum 0, s.k⟩, 0, 0) := by (unfold doR; (repeat' split) <;> first | rfl | (exfalso; first | omega | (simp_all; done) | (simp_all; omega)))
       rw [hT, List.map_append]; exact .mk ⟨rfl, rfl⟩)
end Go.Proofs.YtmdcgimpgoacdaaGreatDoor

/- What was used, by the document. -/
namespace Go.Proofs.YtmdcgimpgoacdaaGreatDoor
set_option linter.unusedVariables false
set_option linter.unusedSimpArgs false
open Abs

def rtoNil : Rto := ⟨SM.nil, SM.nil⟩
def rtoAt (l : List Ac) : Nat → Rto
  | 0 => rtoNil
  | k + 1 => (doR (rtoAt l k) (l.getD k acD)).1
theorem doR_ok {s : Rto} (hs : s.ok) (x : Ac) : (doR s x).1.ok := by
  unfold doR
  repeat' split
  all_goals first
    | exact hs
    | exact ⟨hs.l.put _ _, hs.k.put _ _⟩
    | exact ⟨hs.l.put _ _, hs.k⟩
theorem rtoAt_ok (l : List Ac) : ∀ k, (rtoAt l k).ok
  | 0 => ⟨SM.ok_nil, SM.ok_nil⟩
  | k + 1 => doR_ok (rtoAt_ok l k) _
theorem doR_no {s : Rto} {x : Ac} (h : (doR s x).2.2 ≠ 0) : (doR s x).1 = s := by
  revert h
  unfold doR
  (repeat' split) <;> simp
def cutsR (l : List Ac) : Nat → List Int
  | 0 => []
  | k + 1 => if (doR (rtoAt l k) (l.getD k acD)).2.2 = 0 then cutsR l k ++ [(doR (rtoAt l k) (l.getD k acD)).2.1] else cutsR l k
theorem cutsR_len (l : List Ac) : ∀ k, (cutsR l k).length ≤ k
  | 0 => Nat.le_refl _
  | k + 1 => by
    have := cutsR_len l k
    unfold cutsR
    split
    · simp; omega
    · omega
def usedR (l : List Ac) (kind : ByteArray) (w : Wi) : Nat → Int
  | 0 => 0
  | k + 1 => if (doR (rtoAt l k) (l.getD k acD)).2.2 = 0 ∧ ((rtoAt l (k + 1)).k.get (l.getD k acD).drum).getD bE = kind ∧ w.1 ≤ (l.getD k acD).mo ∧ (l.getD k acD).mo < w.2 then IntKind.i64.wrap (usedR l kind w k + (doR (rtoAt l k) (l.getD k acD)).2.1) else usedR l kind w k
end Go.Proofs.YtmdcgimpgoacdaaGreatDoor

/- Stock at a moment, by the document. -/
namespace Go.Proofs.YtmdcgimpgoacdaaGreatDoor
set_option linter.unusedVariables false
set_option linter.unusedSimpArgs false
open Abs

def cntAt (l : List Ac) (t : Int) : Nat := (l.takeWhile fun x => decide (x.mo ≤ t)).length
theorem cntAt_le (l : List Ac) (t : Int) : cntAt l t ≤ l.length := (List.takeWhile_prefix _).length_le
theorem cntAt_in {l : List Ac} {t : Int} {k : Nat} (h : k < cntAt l t) : (l[k]'(by have := cntAt_le l t; omega)).mo ≤ t := by
  have key : ∀ (l : List Ac) (k : Nat) (hk : k < l.length), k < (l.takeWhile fun x => decide (x.mo ≤ t)).length → l[k].mo ≤ t := by
    intro l
    induction l with
    | nil => intro k hk; simp at hk
    | cons a r ih =>
      intro k hk h
      by_cases ha : a.mo ≤ t
      · simp only [List.takeWhile_cons, ha, decide_true, if_true, List.length_cons] at h
        cases k with
        | zero => simpa using ha
        | succ k => simpa using ih k (by simpa using hk) (by omega)
      · simp [List.takeWhile_cons, ha] at h
  exact key l k _ h
theorem cntAt_out {l : List Ac} {t : Int} (h : cntAt l t < l.length) : t < (l[cntAt l t]).mo := by
  unfold cntAt at h ⊢
  induction l with
  | nil => simp at h
  | cons a r ih =>
    by_cases ha : a.mo ≤ t
    · simp only [List.takeWhile_cons, ha, decide_true, if_true, List.length_cons] at h ⊢
      simpa using ih (by simpa using h)
    · simp only [List.takeWhile_cons, ha, decide_false, Bool.false_eq_true, if_false, List.length_nil] at h ⊢
      simp; omega
def refR (l : List Ac) : Nat → List Int
  | 0 => []
  | k + 1 => if (doR (rtoAt l k) (l.getD k acD)).2.2 = 0 then refR l k else refR l k ++ [(k : Int)]
def whyR (l : List Ac) : Nat → List Int
  | 0 => []
  | k + 1 => if (doR (rtoAt l k) (l.getD k acD)).2.2 = 0 then whyR l k else whyR l k ++ [(doR (rtoAt l k) (l.getD k acD)).2.2]
theorem refR_len (l : List Ac) : ∀ k, (refR l k).length ≤ k ∧ (whyR l k).length ≤ k
  | 0 => ⟨Nat.le_refl _, Nat.le_refl _⟩
  | k + 1 => by
    have := refR_len l k
    unfold refR whyR
    split
    · omega
    · simp; omega
set_option maxRecDepth 100000 in
set_option maxHeartbeats 4000000 in
theorem stored_pcR (l : List Ac) (hl : l.length ≤ 100000) (t : Int) :
    PCp 57 [.c (.lst 6 (l.map encAc)), .c (.int .i64 t)] [] (.tup [.c (.ptr 0 0), .c (.row 4), .c (.row 5)])
      [.box [.mp 1, .mp 2, .row 3], rtoL (rtoAt l (cntAt l t)), rtoK (rtoAt l (cntAt l t)), .row 3 1 ((cutsR l (cntAt l t)).map encI), .row 3 1 ((refR l (cntAt l t)).map encI), .row 30 1 ((whyR l (cntAt l t)).map encI)] := by
  have hlm : (l.map encAc).length = l.length := List.length_map ..
  have hcl0 := cntAt_le l t
  refine fn_sound (mt := mts) tab_fits tab_mixed Tryz.func57 (by rfl) (by kernel_rfl) (by kernel_rfl) Tryz.results57 (Nat.le_of_ble_eq_true (by kernel_rfl)) ?_
  conv => whnf
  refine loop_count (cntAt l t) [.bx 7 2 3 1, .sl 8 3 1, .sl 9 30 1] [1, 7, 8, 9, 17, 18, 19] (fun k (_ : Unit) => ⟨[(1, .c (.int .i64 t)), (7, .c (.ptr 0 0)), (8, .c (.row 4)), (9, .c (.row 5)), (17, .c (.lst 6 (l.map encAc))), (18, .c (.int .i64 (l.map encAc).length)), (19, .c (.int .i64 k))], [(0, .box [.mp 1, .mp 2, .row 3]), (1, rtoL (rtoAt l k)), (2, rtoK (rtoAt l k)), (3, .row 3 1 ((cutsR l k).map encI)), (4, .row 3 1 ((refR l k).map encI)), (5, .row 30 1 ((whyR l k).map encI))], 6⟩) (fun k (_ : Unit) => True) (()) ?_ ?_ ?_
  · conv => whnf
    exact ⟨rfl, trivial⟩
  · intro k _ hk _
    have hk2 : k < l.length := by omega
    have hin := cntAt_in hk
    have hg : l.getD k acD = l[k] := by simp [hk2]
    have hcl := cutsR_len l k
    have hrl := refR_len l k
    have hr1 : rtoAt l (k + 1) = (doR (rtoAt l k) l[k]).1 := by rw [rtoAt, hg]
    have hrm : ((refR l k).map encI).length = (refR l k).length := List.length_map ..
    have hwm : ((whyR l k).map encI).length = (whyR l k).length := List.length_map ..
    conv => whnf
    by_cases he : (doR (rtoAt l k) l[k]).2.2 = 0
    · have hc1 : cutsR l (k + 1) = cutsR l k ++ [(doR (rtoAt l k) l[k]).2.1] := by rw [cutsR, hg, if_pos he]
      have hc2 : refR l (k + 1) = refR l k := by rw [refR, hg, if_pos he]
      have hc3 : whyR l (k + 1) = whyR l k := by rw [whyR, hg, if_pos he]
      repeat' (first
        | (refine Split.mk (fun h => ?_) (fun h => ?_) <;> (try simp only [decide_eq_true_eq, decide_eq_false_iff_not, Bool.not_eq_true', Bool.not_eq_false', beq_iff_eq, beq_eq_false_iff_ne, bne_iff_ne, bne_eq_false_iff_eq] at h) <;> (first | (exfalso; first | omega | exact h trivial) | (conv => whnf)))
        | (refine CondG.mk (fun h => ?_) (fun h => ?_) <;> (try simp only [decide_eq_true_eq, decide_eq_false_iff_not, Bool.not_eq_true', Bool.not_eq_false', beq_iff_eq, beq_eq_false_iff_ne, bne_iff_ne, bne_eq_false_iff_eq] at h) <;> (first | (exfalso; first | omega | exact h trivial) | (conv => whnf)))
        | (refine CallX.mk _ _ (by first | exact do_yes (rtoAt l k) (rtoAt_ok l k) l[k] (cutsR l k) (by omega) he) ?_; conv => whnf)
        | (refine CallG.mk _ _ (by first | exact do_yes (rtoAt l k) (rtoAt_ok l k) l[k] (cutsR l k) (by omega) he) ?_; conv => whnf)
        | (refine Ask.mk (by first | omega | (unfold roomOK; simp [cutRows]; done) | (unfold roomOK; simp [cutRows]; omega) | (simp [cutRows]; done) | (simp [cutRows]; omega)) ?_; conv => whnf)
        | (refine SliceG.fr ?_; conv => whnf)
        | (refine idx_at _ (by with_reducible rfl) (by first | assumption | omega) ?_; conv => whnf)
        | ((with_reducible refine row_map (by first | assumption | omega) ?_); conv => whnf)
        | ((with_reducible refine row_set (by first | assumption | omega | (simp only [List.length_set]; omega) | (simp; omega)) ?_); conv => whnf)
        | fail)
      refine count_next () hk (by rw [wrap_succ hk2 (by omega), hc1, hc2, hc3, hr1]; rfl) trivial
    · have hc1 : cutsR l (k + 1) = cutsR l k := by rw [cutsR, hg, if_neg he]
      have hc2 : refR l (k + 1) = refR l k ++ [(k : Int)] := by rw [refR, hg, if_neg he]
      have hc3 : whyR l (k + 1) = whyR l k ++ [(doR (rtoAt l k) l[k]).2.2] := by rw [whyR, hg, if_neg he]
      have hr2 : rtoAt l (k + 1) = rtoAt l k := by rw [hr1, doR_no he]
      repeat' (first
        | (refine Split.mk (fun h => ?_) (fun h => ?_) <;> (try simp only [decide_eq_true_eq, decide_eq_false_iff_not, Bool.not_eq_true', Bool.not_eq_false', beq_iff_eq, beq_eq_false_iff_ne, bne_iff_ne, bne_eq_false_iff_eq] at h) <;> (first | (exfalso; first | omega | exact h trivial) | (conv => whnf)))
        | (refine CondG.mk (fun h => ?_) (fun h => ?_) <;> (try simp only [decide_eq_true_eq, decide_eq_false_iff_not, Bool.not_eq_true', Bool.not_eq_false', beq_iff_eq, beq_eq_false_iff_ne, bne_iff_ne, bne_eq_false_iff_eq] at h) <;> (first | (exfalso; first | omega | exact h trivial) | (conv => whnf)))
        | (refine CallX.mk _ _ (by first | exact do_no (rtoAt l k) (rtoAt_ok l k) l[k] (cutsR l k) (by omega) he) ?_; conv => whnf)
        | (refine CallG.mk _ _ (by first | exact do_no (rtoAt l k) (rtoAt_ok l k) l[k] (cutsR l k) (by omega) he) ?_; conv => whnf)
        | (refine Ask.mk (by first | omega | (unfold roomOK; simp [cutRows]; done) | (unfold roomOK; simp [cutRows]; omega) | (simp [cutRows]; done) | (simp [cutRows]; omega)) ?_; conv => whnf)
        | (refine SliceG.fr ?_; conv => whnf)
        | (refine idx_at _ (by with_reducible rfl) (by first | assumption | omega) ?_; conv => whnf)
        | ((with_reducible refine row_map (by first | assumption | omega) ?_); conv => whnf)
        | ((with_reducible refine row_set (by first | assumption | omega | (simp only [List.length_set]; omega) | (simp; omega)) ?_); conv => whnf)
        | fail)
      refine count_next () hk (by rw [wrap_succ hk2 (by omega), hc1, hc2, hc3, hr2, List.map_append, List.map_append]; rfl) trivial
  · intro _ _
    conv => whnf
    refine .mk (fun h => ?_) (fun h => ?_)
    · have hlt : cntAt l t < l.length := by simpa using h
      have hout := cntAt_out hlt
      repeat' (first
        | (refine Split.mk (fun h => ?_) (fun h => ?_) <;> (try simp only [decide_eq_true_eq, decide_eq_false_iff_not, Bool.not_eq_true', Bool.not_eq_false', beq_iff_eq, beq_eq_false_iff_ne, bne_iff_ne, bne_eq_false_iff_eq] at h) <;> (first | (exfalso; first | omega | exact h trivial) | (conv => whnf)))
        | (refine CondG.mk (fun h => ?_) (fun h => ?_) <;> (try simp only [decide_eq_true_eq, decide_eq_false_iff_not, Bool.not_eq_true', Bool.not_eq_false', beq_iff_eq, beq_eq_false_iff_ne, bne_iff_ne, bne_eq_false_iff_eq] at h) <;> (first | (exfalso; first | omega | exact h trivial) | (conv => whnf)))
        | (refine Ask.mk (by first | omega | (unfold roomOK; simp [cutRows]; done) | (unfold roomOK; simp [cutRows]; omega) | (simp [cutRows]; done) | (simp [cutRows]; omega)) ?_; conv => whnf)
        | (refine SliceG.fr ?_; conv => whnf)
        | (refine idx_at _ (by with_reducible rfl) (by first | assumption | omega) ?_; conv => whnf)
        | ((with_reducible refine row_map (by first | assumption | omega) ?_); conv => whnf)
        | ((with_reducible refine row_set (by first | assumption | omega | (simp only [List.length_set]; omega) | (simp; omega)) ?_); conv => whnf)
        | fail)
      exact .mk ⟨rfl, rfl⟩
    · conv => whnf
      exact .mk ⟨rfl, rfl⟩
end Go.Proofs.YtmdcgimpgoacdaaGreatDoor
