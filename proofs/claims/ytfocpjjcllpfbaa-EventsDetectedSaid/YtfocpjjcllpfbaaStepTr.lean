/- Walks: the generator's trace of steps. -/
import Derived.Test.YtfocpjjcllpfbaaStream
namespace Go.Proofs.Ytfocpjjcllpfbaa
open Go.RowKit

/-- what the rounds of StepTrace keep -/
def StepTrRel (w : World) (s K N : Nat) (v3 v4 v10 : Value) (wr : World) : Prop :=
  ∃ (a : Option Addr) (c : Nat) (xs : List Int) (now : Int), xs.length ≤ N ∧ v10 = .int .i64 xs.length ∧ v4 = .int .i64 now ∧ v3 = .slice a xs.length c ∧
    wr.ownsRow w.heap.size 3 1 (.slice a xs.length c) xs.length (ints xs) ∧ Str wr s K ∧ w.grownBy wr (some s)

set_option maxRecDepth 100000 in
set_option maxHeartbeats 1000000 in
theorem steptrace_any (s K : Nat) (w : World) (hK : K < 2305843009213693952) (h : Str w s K) :
    Calls Try.prog 9 #[.pointer (some ⟨s, 0, none⟩)] w (NumsPost w s (K + 1) 408) := by
  have hslt := h.lt
  go_enter Try.func9, Try.ntmps9
  go_wp2_with fail
  refine (range_any s K _ _ _ (by omega) (by omega) (by omega) (by omega) h).mono ?_
  rintro e w2 ⟨n, rfl, hn0, hn1, hs2, hg2⟩
  have hn2 := hn1 (by omega)
  have hsz := hg2.size
  clear hn1 h
  obtain ⟨N, rfl⟩ := Int.eq_ofNat_of_zero_le hn0
  have hN : N ≤ 2 := by omega
  go_wp2_with fail
  go_loopw [3, 4, 10] (StepTrRel w s (K + 1) (4 * (100 + N))) (fun _ _ i _ => 4 * (100 + N) - (intOf i).toNat)
  case atStart => exact ⟨none, 0, [], _, by simp, rfl, rfl, rfl, World.ownsRow_nil _ _ _ _, hs2, hg2⟩
  case round =>
    obtain ⟨a, c, xs, now', hk, rfl, rfl, rfl, hown, hs, hg⟩ := hrel
    clear hs2 hg2
    have hq1 : (xs.length + 1) * 8 ≤ 140737488355328 := by omega
    have hq2 : xs.length + 1 ≤ maxLen := by unfold maxLen; omega
    have hq3 : w.heap.size ≤ wr.heap.size := hg.size
    have hsr : ∀ b, blk a = some b → w.heap.size ≤ b := by
      intro b hb; cases a with
      | none => cases hb
      | some p => cases hb; exact (own_lt hown p rfl).1
    by_cases hlt : xs.length < 4 * (100 + N)
    · by_cases h2 : xs.length % 4 = 2
      · go_wp2_with (at_builtin; refine wpList_push rfl _ _ _ rfl w.heap.size _ _ _ _ elem_int a xs.length c _ hown 1 1 [.int .i64 (wrap64 (now' - 50))] rfl rfl rfl (by simp [Value.oneCell']) hq1 hq2 hq3 ?_; intro a2 c2 w4 hown4 hg4 hat4)
        have hs4 := hs.grown hg4 (by intro b hb; have := hsr b hb; omega)
        have hgW4 := grown_own hg hg4 hsr
        clear hs hown hg4 hat4 hg hsr hq1 hq2 hq3
        go_wp2_with fail
        exact ⟨⟨a2, c2, xs ++ [(wrap64 (now' - 50))], _, by simp; omega, by simp, rfl, by simp, by simpa [ints] using hown4, hs4, hgW4⟩, by simp [intOf]; omega⟩
      · go_wp2_with (at_builtin; refine wpList_push rfl _ _ _ rfl w.heap.size _ _ _ _ elem_int a xs.length c _ hown 1 1 [.int .i64 now'] rfl rfl rfl (by simp [Value.oneCell']) hq1 hq2 hq3 ?_; intro a2 c2 w4 hown4 hg4 hat4)
        have hs4 := hs.grown hg4 (by intro b hb; have := hsr b hb; omega)
        have hgW4 := grown_own hg hg4 hsr
        clear hs hown hg4 hat4 hg hsr hq1 hq2 hq3
        go_wp2_with fail
        exact ⟨⟨a2, c2, xs ++ [now'], _, by simp; omega, by simp, rfl, by simp, by simpa [ints] using hown4, hs4, hgW4⟩, by simp [intOf]; omega⟩
    · go_wp2_with fail
      go_ret
      exact ⟨a, c, xs, rfl, by omega, hown, hs, hg⟩
end Go.Proofs.Ytfocpjjcllpfbaa
