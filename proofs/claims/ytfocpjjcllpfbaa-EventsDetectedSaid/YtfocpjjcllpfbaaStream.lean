/- The stream of numbers: its state, and the walks of its methods. -/
import Derived.Test.YtfocpjjcllpfbaaRows
import Derived.Test.YtfocpjjcllpfbaaLib
namespace Go.Proofs.Ytfocpjjcllpfbaa
open Go.RowKit

/-- the stream lies in block s; at most K numbers have been taken -/
def Str (w : World) (s : Nat) (K : Nat) : Prop :=
  ∃ (aL : Option Addr) (cap : Nat) (L : List Int) (k : Int), w.heap[s]? = some (.cells #[.slice aL L.length cap, .int .i64 k] 25 (0, 0)) ∧
    L.length ≤ maxLen ∧ At w aL (ints L) ∧ (L ≠ [] → ∀ a, aL = some a → a.block < s) ∧ 0 ≤ k ∧ k ≤ K

theorem At.grownE {w w' : World} {a : Option Addr} {L : List Int} {x : Option Nat} (h : At w a (ints L)) (hg : w.grownBy w' x) (hx : L ≠ [] → ∀ p, a = some p → some p.block ≠ x) : At w' a (ints L) := by
  by_cases hL : L = []
  · exact .inl (by simp [hL, ints])
  · exact h.grown hg (hx hL)

def below (x n : Int) : Int := if n < 1 then 0 else x % n

set_option maxHeartbeats 400000 in
theorem below_any (x n : Int) (w : World) (hn : n ≤ 9223372036854775807) :
    Calls Try.prog 63 #[.int .i64 x, .int .i64 n] w fun e w' => e = .returned (.int .i64 (below x n)) ∧ w = w' := by
  by_cases h : n < 1
  · go_enter Try.func63, Try.ntmps63
    go_wp2
    go_ret
    exact ⟨ret_int (by simp [below, h]), rfl⟩
  · have h5 : 1 ≤ n := by omega
    have h3 := Int.emod_nonneg x (b := n) (by omega)
    have h4 := Int.emod_lt_of_pos x (b := n) (by omega)
    have HB : Hid (below x n = x % n) := by show below x n = x % n; rw [below, if_neg h]
    clear h
    go_enter Try.func63, Try.ntmps63
    go_wp2
    · have hh : x.tmod n < 0 := by assumption
      have h1 := tmod_neg h5 hh
      go_ret
      exact ⟨ret_int (by rw [HB.out, IntWalk.wrap64_in _ (by omega), h1]), rfl⟩
    · have hh : 0 ≤ x.tmod n := by assumption
      have h1 := tmod_pos h5 hh
      go_ret
      exact ⟨ret_int (by rw [HB.out, h1]), rfl⟩

theorem below_lo (x n : Int) : 0 ≤ below x n := by
  unfold below; split
  · omega
  · exact Int.emod_nonneg x (by omega)
theorem below_hi (x n : Int) (h : 1 ≤ n) : below x n < n := by
  unfold below; rw [if_neg (by omega)]; exact Int.emod_lt_of_pos x (by omega)

/-- the state behind 's.at++' -/
theorem Str.bump {w : World} {s K : Nat} {aL : Option Addr} {cap : Nat} {L : List Int} {k : Int} (hb : w.heap[s]? = some (.cells #[.slice aL L.length cap, .int .i64 k] 25 (0, 0)))
    (hL : L.length ≤ maxLen) (hat : At w aL (ints L)) (hne : L ≠ [] → ∀ a, aL = some a → a.block < s) (h0 : 0 ≤ k) (h1 : k ≤ K) :
    Str (w.setCell ⟨s, 1, none⟩ (.int .i64 (k + 1))) s (K + 1) ∧ w.grownBy (w.setCell ⟨s, 1, none⟩ (.int .i64 (k + 1))) (some s) := by
  have hg : w.grownBy (w.setCell ⟨s, 1, none⟩ (.int .i64 (k + 1))) (some s) :=
    ⟨rfl, rfl, rfl, by simp, fun j _ hj => heap_setCell_other w ⟨s, 1, none⟩ j _ (fun e => hj (by simp [e]))⟩
  refine ⟨⟨aL, cap, L, k + 1, ?_, hL, hat.grownE hg (by intro hl p hp; have := hne hl p hp; simp; omega), hne, by omega, by omega⟩, hg⟩
  exact heap_setCell_same w s 1 _ _ _ hb

theorem Str.drew {w : World} {s K : Nat} (h : Str w s K) : Str w.drew s K := h
theorem Str.drewN {w : World} {s K : Nat} (h : Str w s K) (n : Nat) : Str (w.drewN n) s K := h

/-- what Next leaves -/
def NextPost (w : World) (s K : Nat) (m : Int) (e : Ending) (w' : World) : Prop :=
  ∃ r : Int, e = .returned (.int .i64 r) ∧ 0 ≤ r ∧ (1 ≤ m → r < m) ∧ Str w' s (K + 1) ∧ w.grownBy w' (some s)

set_option maxHeartbeats 800000 in
theorem next_any (s K : Nat) (m : Int) (w : World) (hK : K < 4611686018427387904) (hm : m ≤ 9223372036854775807) (h : Str w s K) :
    Calls Try.prog 36 #[.pointer (some ⟨s, 0, none⟩), .int .i64 m] w (NextPost w s K m) := by
  obtain ⟨aL, cap, L, k, hb, hL, hat, hne, hk0, hk1⟩ := h
  have HS := Lib.hid (Str.bump hb hL hat hne hk0 hk1)
  unfold maxLen at hL
  have hc0 : w.cell? ⟨s, 0, none⟩ = some (.slice aL L.length cap) := by simp [World.cell?, hb]
  have hc1 : w.cell? ⟨s, 1, none⟩ = some (.int .i64 k) := by simp [World.cell?, hb]
  have hf1 : w.frozen? ⟨s, 1, none⟩ = false := by simp [World.frozen?, hb]
  clear hb
  by_cases hl : L.length = 0
  · clear hne hat
    go_enter Try.func36, Try.ntmps36
    go_wp2_with fail
    refine (below_any _ _ _ hm).mono ?_
    rintro e w' ⟨rfl, rfl⟩
    go_wp2
    go_ret
    exact ⟨_, rfl, below_lo _ _, below_hi _ _, HS.out⟩
  · have hl1 : 0 < L.length := by omega
    have hi0 := Int.emod_nonneg k (b := (L.length : Int)) (by omega)
    have hi1 := Int.emod_lt_of_pos k (b := (L.length : Int)) (by omega)
    obtain ⟨b, off, rfl, hck⟩ := hat.int (k := (k % (L.length : Int)).toNat) (by omega)
    have hne' : b ≠ s := Nat.ne_of_lt (hne (by intro h; rw [h] at hl1; simp at hl1) _ rfl)
    generalize L.getD (k % (L.length : Int)).toNat 0 = x at hck
    clear hl hne hat
    go_enter Try.func36, Try.ntmps36
    go_wp2_with fail
    go_quiet (fail)
    go_wp2_with fail
    go_quiet (fail)
    go_wp2_with fail
    refine (below_any _ _ _ (by omega)).mono ?_
    rintro e w' ⟨rfl, rfl⟩
    go_wp2_with fail
    refine (below_any _ _ _ hm).mono ?_
    rintro e w' ⟨rfl, rfl⟩
    go_wp2_with fail
    go_ret
    exact ⟨_, rfl, below_lo _ _, below_hi _ _, HS.out.1.drewN _, grown_drewN HS.out.2 _⟩

theorem Str.grown {w w' : World} {s K : Nat} {x : Option Nat} (h : Str w s K) (hg : w.grownBy w' x) (hx : ∀ b, x = some b → s < b) : Str w' s K := by
  obtain ⟨aL, cap, L, k, hb, hL, hat, hne, hk0, hk1⟩ := h
  exact ⟨aL, cap, L, k, (hg.block s (lt_of_block hb) (fun e => by have := hx s e.symm; omega)).trans hb, hL, hat.grownE hg (fun hl p hp e => by have := hx _ e.symm; have := hne hl p hp; omega), hne, hk0, hk1⟩
theorem Str.quiet {w w' : World} {s K : Nat} (h : Str w s K) (hg : w.grownBy w' none) : Str w' s K := h.grown hg (by simp)
theorem Str.alloc {w : World} {s K : Nat} (h : Str w s K) (o : Obj) : Str (w.alloc o) s K := h.quiet (World.grownBy_alloc w o none)
theorem Str.mono {w : World} {s K K' : Nat} (h : Str w s K) (hk : K ≤ K') : Str w s K' := by
  obtain ⟨aL, cap, L, k, hb, hL, hat, hne, hk0, hk1⟩ := h
  exact ⟨aL, cap, L, k, hb, hL, hat, hne, hk0, by omega⟩
theorem Str.lt {w : World} {s K : Nat} (h : Str w s K) : s < w.heap.size := by
  obtain ⟨aL, cap, L, k, hb, _⟩ := h; exact lt_of_block hb

theorem Str.setCell {w : World} {s K : Nat} (h : Str w s K) {p : Addr} (hp : s < p.block) (v : Value) : Str (w.setCell p v) s K :=
  h.grown (x := some p.block) ⟨rfl, rfl, rfl, by simp, fun j _ hj => heap_setCell_other w p j _ (fun e => hj (by rw [e]))⟩ (by intro b hb; cases hb; exact hp)

/-- what Pick leaves -/
def PickPost (w : World) (s K : Nat) (xs : List Int) (e : Ending) (w' : World) : Prop :=
  ∃ x : Int, e = .returned (.int .i64 x) ∧ x ∈ xs ∧ Str w' s (K + 1) ∧ w.grownBy w' (some s)

set_option maxHeartbeats 400000 in
theorem pick_any (s K : Nat) (a : Option Addr) (n cap : Nat) (xs : List Int) (w : World) (hK : K < 4611686018427387904) (hn : n = xs.length) (hn1 : 1 ≤ n) (hm : n ≤ maxLen)
    (hat : At w a (ints xs)) (hne : ∀ p, a = some p → p.block ≠ s) (h : Str w s K) :
    Calls Try.prog 7 #[.pointer (some ⟨s, 0, none⟩), .slice a n cap] w (PickPost w s K xs) := by
  subst hn
  unfold maxLen at hm
  go_enter Try.func7, Try.ntmps7
  go_wp2_with fail
  refine (next_any s K _ _ hK (by omega) h).mono ?_
  rintro e w' ⟨r, rfl, h0, h1, hs, hg⟩
  have hr : r.toNat < xs.length := by have := h1 (by omega); omega
  have hr2 : r < xs.length := by omega
  obtain ⟨b, off, rfl, hck⟩ := (hat.grown hg (by simpa using hne)).int hr
  have hmem : xs.getD r.toNat 0 ∈ xs := by simp [hr]
  generalize xs.getD r.toNat 0 = x at hck hmem
  clear hat hne h h1
  go_wp2_with fail
  go_ret
  exact ⟨x, rfl, hmem, hs, hg⟩

/-- Pick of a list that is written out -/
theorem pick_lit (s K : Nat) (xs : List Int) (w : World) (cs : Array Value) (n : Nat) (E : TypeId) (B : Nat) (hB : w.heap.size = B) (hcs : cs = (ints xs).toArray) (hn : n = xs.length) (hK : K < 4611686018427387904) (h1 : 0 < n) (h2 : n < 1000) (h : Str w s K) :
    Calls Try.prog 7 #[.pointer (some ⟨s, 0, none⟩), .slice (some ⟨B, 0, none⟩) n n] (w.alloc (.cells cs E)) (PickPost w s K xs) := by
  subst hB
  refine (pick_any s K _ _ _ xs _ hK hn h1 (by unfold maxLen; omega) (by subst hcs; exact At.lit _ _ _) (by intro p hp; have := h.lt; cases hp; simp; omega) (h.alloc _)).mono ?_
  rintro e w' ⟨r, rfl, h4, hs', hg'⟩
  exact ⟨r, rfl, h4, hs', (World.grownBy_alloc _ _ _).trans hg'⟩

/-- what Flip leaves -/
def FlipPost (w : World) (s K : Nat) (e : Ending) (w' : World) : Prop :=
  ∃ x : Bool, e = .returned (.bool x) ∧ Str w' s (K + 1) ∧ w.grownBy w' (some s)

set_option maxHeartbeats 400000 in
theorem flip_any (s K : Nat) (n : Int) (w : World) (hK : K < 4611686018427387904) (hm : n ≤ 9223372036854775807) (h : Str w s K) :
    Calls Try.prog 8 #[.pointer (some ⟨s, 0, none⟩), .int .i64 n] w (FlipPost w s K) := by
  go_enter Try.func8, Try.ntmps8
  go_wp2_with fail
  refine (next_any s K _ _ hK hm h).mono ?_
  rintro e w' ⟨r, rfl, h0, h1, hs, hg⟩
  clear h
  go_wp2_with fail
  go_ret
  exact ⟨_, rfl, hs, hg⟩

/-- what Range leaves -/
def RangePost (w : World) (s K : Nat) (lo hi : Int) (e : Ending) (w' : World) : Prop :=
  ∃ x : Int, e = .returned (.int .i64 x) ∧ lo ≤ x ∧ (lo ≤ hi → x ≤ hi) ∧ Str w' s (K + 1) ∧ w.grownBy w' (some s)

set_option maxHeartbeats 400000 in
theorem range_any (s K : Nat) (lo hi : Int) (w : World) (hK : K < 4611686018427387904) (h1 : -1152921504606846976 ≤ lo) (h2 : hi ≤ 1152921504606846976) (h3 : lo ≤ hi) (h : Str w s K) :
    Calls Try.prog 35 #[.pointer (some ⟨s, 0, none⟩), .int .i64 lo, .int .i64 hi] w (RangePost w s K lo hi) := by
  go_enter Try.func35, Try.ntmps35
  go_wp2_with fail
  refine (next_any s K _ _ hK (by omega) h).mono ?_
  rintro e w' ⟨r, rfl, h0, h5, hs, hg⟩
  have h4 : r ≤ hi - lo := by have := h5 (by omega); omega
  clear h h5
  go_wp2_with fail
  go_ret
  exact ⟨_, rfl, by omega, by omega, hs, hg⟩

/-- what Odd leaves -/
def OddPost (w : World) (s K : Nat) (e : Ending) (w' : World) : Prop :=
  ∃ x : Int, e = .returned (.int .i64 x) ∧ -1099511627776 ≤ x ∧ x ≤ 1099511627776 ∧ Str w' s (K + 2) ∧ w.grownBy w' (some s)

set_option maxHeartbeats 400000 in
theorem odd_any (s K : Nat) (lo hi : Int) (w : World) (hK : K < 4611686018427387900) (h1 : -1099511627776 < lo) (h2 : hi < 1099511627776) (h3 : lo ≤ hi) (h : Str w s K) :
    Calls Try.prog 37 #[.pointer (some ⟨s, 0, none⟩), .int .i64 lo, .int .i64 hi] w (OddPost w s K) := by
  go_enter Try.func37, Try.ntmps37
  go_wp2_with fail
  refine (flip_any s K _ _ (by omega) (by omega) h).mono ?_
  rintro e w1 ⟨r, rfl, hs, hg⟩
  clear h
  cases r
  · go_wp2_with fail
    refine (range_any s (K + 1) _ _ _ (by omega) (by omega) (by omega) (by omega) hs).mono ?_
    rintro e w' ⟨r, rfl, h4, h5, hs, hg'⟩
    have h6 := h5 h3
    clear h5
    go_wp2_with fail
    go_ret
    exact ⟨_, rfl, by omega, by omega, hs, hg.trans hg'⟩
  · go_wp2_with fail
    refine (pick_lit s (K + 1) [lo - 1, hi + 1, lo, hi, -1099511627776, 1099511627776] _ _ _ _ _ rfl rfl rfl (by omega) (by simp) (by simp) hs).mono ?_
    rintro e w' ⟨r, rfl, h4, hs', hg'⟩
    have hg2 := hg.trans hg'
    simp only [List.mem_cons, List.not_mem_nil, or_false] at h4
    have h5 : -1099511627776 ≤ r ∧ r ≤ 1099511627776 := by omega
    clear h4
    go_wp2_with fail
    go_ret
    exact ⟨_, rfl, h5.1, h5.2, hs', hg2⟩

theorem elem_int : Elem Try.prog 22 3 1 8 := by
  obtain ⟨i, hi, hz, h1, h2⟩ := info_parts (show (Try.prog.info? 3).map (fun i => (i.zero, i.size, i.bytes)) = some (some (.int .i64 0), 1, 8) by kernel_rfl)
  exact ⟨Try.underlying22, i, _, hi, hz, h1, h2, rfl, by omega⟩

/-- a list of numbers that the call has made -/
def NumsPost (w : World) (s K : Nat) (most : Nat) (e : Ending) (w' : World) : Prop :=
  ∃ (a : Option Addr) (c : Nat) (xs : List Int), e = .returned (.slice a xs.length c) ∧ xs.length ≤ most ∧ w'.ownsRow w.heap.size 3 1 (.slice a xs.length c) xs.length (ints xs) ∧ Str w' s K ∧ w.grownBy w' (some s)

/-- what the rounds of Power keep -/
def PowerRel (w : World) (s K N : Nat) (v5 v6 v13 : Value) (wr : World) : Prop :=
  ∃ (a : Option Addr) (c : Nat) (xs : List Int) (now : Int), xs.length ≤ N ∧ v13 = .int .i64 xs.length ∧ v6 = .int .i64 now ∧ v5 = .slice a xs.length c ∧
    wr.ownsRow w.heap.size 3 1 (.slice a xs.length c) xs.length (ints xs) ∧ Str wr s (K + 4 * xs.length) ∧ w.grownBy wr (some s)

set_option maxRecDepth 100000 in
set_option maxHeartbeats 1000000 in
theorem power_any (s K : Nat) (most : Int) (w : World) (hK : K < 2305843009213693952) (hm0 : 0 ≤ most) (hm : most ≤ 1000000) (h : Str w s K) :
    Calls Try.prog 5 #[.pointer (some ⟨s, 0, none⟩), .int .i64 most] w (NumsPost w s (K + 2 + 4 * most.toNat + 4) most.toNat) := by
  have hslt := h.lt
  go_enter Try.func5, Try.ntmps5
  go_wp2_with fail
  refine (pick_lit s K [0, 1000, 500] _ _ _ _ _ rfl rfl rfl (by omega) (by simp) (by simp) h).mono ?_
  rintro e w1 ⟨now, rfl, -, hs1, hg1⟩
  clear h
  go_wp2_with fail
  refine (range_any s (K + 1) _ _ _ (by omega) (by omega) (by omega) (by omega) hs1).mono ?_
  rintro e w2 ⟨n, rfl, hn0, hn1, hs2, hg2⟩
  have hn2 := hn1 hm0
  have hg12 := hg1.trans hg2
  have hsz := hg12.size
  clear hn1 hs1 hg1 hg2
  obtain ⟨N, rfl⟩ := Int.eq_ofNat_of_zero_le hn0
  go_wp2_with fail
  go_loopw [5, 6, 13] (PowerRel w s (K + 2) N) (fun _ _ i _ => N - (intOf i).toNat)
  case atStart => exact ⟨none, 0, [], now, by simp, rfl, rfl, rfl, World.ownsRow_nil _ _ _ _, hs2, hg12⟩
  case round =>
    obtain ⟨a, c, xs, now', hk, rfl, rfl, rfl, hown, hs, hg⟩ := hrel
    clear hs2 hg12
    by_cases hlt : xs.length < N
    · go_wp2_with fail
      refine (pick_lit s (K + 2 + 4 * xs.length) [0, 0, 0, 1, -1] _ _ _ _ _ rfl rfl rfl (by omega) (by simp) (by simp) hs).mono ?_
      rintro e w3 ⟨x, rfl, -, hs3, hg3⟩
      have hown3 := own_kept hown hg3 (by intro b hb; cases hb; exact .inl hslt)
      have hgW3 := hg.trans hg3
      have hq1 : (xs.length + 1) * 8 ≤ 140737488355328 := by omega
      have hq2 : xs.length + 1 ≤ maxLen := by unfold maxLen; omega
      have hq3 : w.heap.size ≤ w3.heap.size := hgW3.size
      clear hs hg hown hg3
      go_wp2_with (at_builtin; refine wpList_push rfl _ _ _ rfl w.heap.size _ _ _ _ elem_int a xs.length c _ hown3 1 1 [.int .i64 (wrap64 (now' + x))] rfl rfl rfl (by simp [Value.oneCell']) hq1 hq2 hq3 ?_; intro a2 c2 w4 hown4 hg4 hat4)
      have hsr : ∀ b, blk a = some b → w.heap.size ≤ b := by
        intro b hb; cases a with
        | none => cases hb
        | some p => cases hb; exact (own_lt hown3 p rfl).1
      have hs4 := hs3.grown hg4 (by intro b hb; have := hsr b hb; omega)
      have hgW4 := grown_own hgW3 hg4 hsr
      clear hs3 hown3 hg4 hat4 hgW3 hsr hq1 hq2 hq3
      refine (pick_lit s _ [0, 0, 1, 1, 2] _ _ _ _ _ rfl rfl rfl (by omega) (by simp) (by simp) hs4).mono ?_
      rintro e w5 ⟨y, rfl, -, hs5, hg5⟩
      have hown5 := own_kept hown4 hg5 (by intro b hb; cases hb; exact .inl hslt)
      have hgW5 := hgW4.trans hg5
      clear hs4 hown4 hg5 hgW4
      go_wp2_with fail
      refine (flip_any s _ _ _ (by omega) (by omega) hs5).mono ?_
      rintro e w6 ⟨f, rfl, hs6, hg6⟩
      have hown6 := own_kept hown5 hg6 (by intro b hb; cases hb; exact .inl hslt)
      have hgW6 := hgW5.trans hg6
      clear hs5 hown5 hg6 hgW5
      cases f
      · go_wp2_with fail
        go_roundw
        case rel => exact ⟨a2, c2, xs ++ [wrap64 (now' + x)], _, by simp; omega, by simp, rfl, by simp, by simpa [ints] using hown6, hs6.mono (by simp; omega), hgW6⟩
        case measure => simp [intOf]; omega
      · go_wp2_with fail
        refine (pick_lit s _ [5, 10, 30, 100] _ _ _ _ _ rfl rfl rfl (by omega) (by simp) (by simp) hs6).mono ?_
        rintro e w7 ⟨z, rfl, -, hs7, hg7⟩
        have hown7 := own_kept hown6 hg7 (by intro b hb; cases hb; exact .inl hslt)
        have hgW7 := hgW6.trans hg7
        clear hs6 hown6 hg7 hgW6
        go_wp2_with fail
        go_roundw
        case rel => exact ⟨a2, c2, xs ++ [wrap64 (now' + x)], _, by simp; omega, by simp, rfl, by simp, by simpa [ints] using hown7, hs7.mono (by simp; omega), hgW7⟩
        case measure => simp [intOf]; omega
    · by_cases hz : 0 < xs.length
      · go_wp2_with fail
        refine (flip_any s _ _ _ (by omega) (by omega) hs).mono ?_
        rintro e w3 ⟨f, rfl, hs3, hg3⟩
        have hown3 := own_kept hown hg3 (by intro b hb; cases hb; exact .inl hslt)
        have hgW3 := hg.trans hg3
        clear hs hown hg hg3
        cases f
        · go_wp2_with fail
          go_ret
          exact ⟨a, c, xs, rfl, by omega, hown3, hs3.mono (by omega), hgW3⟩
        · go_wp2_with fail
          refine (next_any s _ _ _ (by omega) (by omega) hs3).mono ?_
          rintro e w4 ⟨r, rfl, hr0, hr1, hs4, hg4⟩
          have hr2 := hr1 (by omega)
          have hown4 := own_kept hown3 hg4 (by intro b hb; cases hb; exact .inl hslt)
          have hgW4 := hgW3.trans hg4
          clear hs3 hown3 hg4 hgW3 hr1
          go_wp2_with fail
          refine (pick_lit s _ [10000, -10000, 10001, -9223372036854775808] _ _ _ _ _ rfl rfl rfl (by omega) (by simp) (by simp) hs4).mono ?_
          rintro e w5 ⟨z, rfl, -, hs5, hg5⟩
          have hown5 := own_kept hown4 hg5 (by intro b hb; cases hb; exact .inl hslt)
          have hgW5 := hgW4.trans hg5
          clear hs4 hown4 hg5 hgW4
          obtain ⟨R, rfl⟩ := Int.eq_ofNat_of_zero_le hr0
          have hR : R < xs.length := by omega
          obtain ⟨g, rfl⟩ := own_addr hown5 (by rw [length_ints]; omega)
          obtain ⟨hck, hfk⟩ := own_cell hown5 (j := R) (by rw [length_ints]; omega)
          have HO := Lib.hid (hown5.stored R (.int .i64 z))
          have hgl := (own_lt hown5 _ rfl).1
          rw [ints_get _ _ hR] at hck
          clear hown5
          go_wp2_with fail
          go_ret
          have ho := HO.out
          exact ⟨_, c, xs.set R z, by rw [List.length_set]; rfl, by simp; omega, by simpa [ints, List.map_set] using ho.1, (hs5.grown ho.2 (by intro b hb; cases hb; exact Nat.lt_of_lt_of_le hslt hgl)).mono (by omega), grown_own hgW5 ho.2 (by intro b hb; cases hb; exact hgl)⟩
      · go_wp2_with fail
        go_ret
        exact ⟨a, c, xs, rfl, by omega, hown, hs.mono (by omega), hg⟩
end Go.Proofs.Ytfocpjjcllpfbaa
