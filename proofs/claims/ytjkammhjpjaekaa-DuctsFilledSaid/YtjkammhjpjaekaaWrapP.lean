/- How a law's contract meets the row. -/
import Derived.Test.YtjkammhjpjaekaaWrap
import Derived.Test.YtjkammhjpjaekaaC2
namespace Go.Proofs.Ytjkammhjpjaekaa
set_option linter.unusedVariables false
set_option linter.unusedSimpArgs false
open Go.ChangeShapes Go.WideShapes Go.ChangeAt Go.RowKit
open Abs

theorem walk_of_pc {f : Nat} (H : ∀ L : List Int, L.length ≤ 9223372036854775807 → PCp f [.c (.lst 1 (L.map encI))] [] (.c (.bool true)) [])
    (a : Option Addr) (len cap : Nat) (zs : List Int) (w : World) (h : IsRow .i64 w a len cap zs) :
    Calls Try.prog f #[.slice a len cap] w fun e w' => e = .returned (.bool true) ∧ Below w.heap.size w w' := by
  have key : ∀ L : List Int, L.length ≤ 9223372036854775807 → RT (fun b => b < w.heap.size) w (.slice a len cap) (.lst 1 (L.map encI)) →
      Calls Try.prog f #[.slice a len cap] w fun e w' => e = .returned (.bool true) ∧ Below w.heap.size w w' := by
    intro L hL hrt
    have hc := (H L hL).2 (fun b => b < w.heap.size) (fun _ => none) w #[.slice a len cap] (.cons (.c (.tree hrt)) .nil)
      ⟨fun l o h => by simp [nth] at h, fun l l' o o' b h => by simp [nth] at h, fun l o b h => by simp [nth] at h, fun b h => h, fun l c h => by simp at h⟩
      (fun l c h => by simp at h)
    refine hc.mono ?_
    rintro e w' ⟨c, F', φ', r0, os0, ⟨e1, e2⟩, rfl, hr, hn⟩
    subst e1 e2
    refine ⟨?_, hn.os, hn.tape, hn.output, hn.size, ?_⟩
    · cases hr with | c hv => cases hv with | tree ht => cases ht; rfl
    · intro k hk
      by_cases he : w'.heap[k]? = w.heap[k]?
      · exact he
      · obtain ⟨l, o, h1, _⟩ := hn.keep k hk he
        simp [nth] at h1
  rcases h with ⟨rfl, rfl, rfl, rfl⟩ | ⟨x, rfl, hl, hm, hz, hcell, -⟩
  · exact key [] (by simp) (.lst0 none 0 1 (Nat.zero_le _))
  · have hm' : cap ≤ 9223372036854775807 := hm
    by_cases h0 : len = 0
    · subst h0
      exact key [] (by simp) (.lst0 (some x) cap 1 hm)
    · obtain ⟨h1, h2⟩ := spot_none (hcell 0 (by omega))
      have h2 : x.block < w.heap.size := h2
      obtain ⟨b, o, sp⟩ := x
      have h1 : sp = none := h1
      subst h1
      refine key (zs.take len) (by simp; omega) (.lst b o len cap 1 _ (fun i _ => .int .i64 (zs.getD i 0)) h2 (by simp; omega) hl hm ?_ ?_ ?_)
      · intro r hr
        obtain ⟨y, _, rfl⟩ := List.mem_map.1 hr
        rfl
      · intro i j hi hj
        have hj0 : j = 0 := by omega
        subst hj0
        have h6 : (⟨b, o, none⟩ : Addr).add i = ⟨b, o + i, none⟩ := by unfold Addr.add; split <;> simp_all
        have := hcell i (by omega)
        rw [h6] at this
        simpa using this
      · intro i r j v hr hv
        have hi : i < (zs.take len).length := by
          have := (List.getElem?_eq_some_iff.1 hr).1
          simpa using this
        have hi2 : i < zs.length := by simp at hi; omega
        rw [List.getElem?_map, List.getElem?_eq_getElem hi] at hr
        simp only [Option.map_some, Option.some.injEq] at hr
        subst hr
        cases j with
        | zero =>
          simp only [encI, List.getElem?_cons_zero, Option.some.injEq] at hv
          subst hv
          simp only [List.getElem_take]
          rw [show zs.getD i 0 = zs[i] by simp [hi2]]
          exact .int _ _
        | succ j => simp [encI] at hv
end Go.Proofs.Ytjkammhjpjaekaa
