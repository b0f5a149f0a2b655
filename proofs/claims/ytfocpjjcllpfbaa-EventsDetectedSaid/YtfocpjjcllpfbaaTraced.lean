/- Walk: the self-test of the laws about traces. -/
import Derived.Test.YtfocpjjcllpfbaaEvC
namespace Go.Proofs.Ytfocpjjcllpfbaa
open Go.RowKit

theorem traced_E : evE [10, 10, 4, 4] 5 2 3 0 1 = [(10, 6)] := by kernel_rfl
theorem traced_err : evErr [10, 10, 4, 4] 5 2 3 0 1 = 0 := by kernel_rfl

set_option maxHeartbeats 800000 in
theorem traced_any (w : World) : Calls Try.prog 24 #[] w fun e w' => e = .returned (.bool true) ∧ w.grownBy w' none := by
  have HX : ∀ W : World, W = w.alloc (.cells #[.int .i64 10, .int .i64 10, .int .i64 4, .int .i64 4] 3) → Hid (Calls Try.prog 11 #[.slice (some ⟨w.heap.size, 0, none⟩) 4 4, .agg #[.int .i64 5, .int .i64 2, .int .i64 3, .int .i64 0, .int .i64 1]] W (RowPost W 54 [(10, 6)] 0)) := by
    intro W hW
    have := Detected_all (some ⟨w.heap.size, 0, none⟩) 4 4 [10, 10, 4, 4] 5 2 3 0 1 W rfl (by omega) (by unfold maxLen; omega) (by subst hW; exact At.lit _ _ _) (by omega)
    rw [traced_E, traced_err] at this
    exact this
  go_enter Try.func24, Try.ntmps24
  go_wp2_with fail
  refine (HX _ rfl).out.mono ?_
  rintro e w' ⟨a, c, rfl, hown, hg⟩
  have hl := own_lt hown
  have hx := own_at hown
  obtain ⟨g, rfl⟩ := own_addr hown (by simp [prs])
  have h1 := (own_cell hown (j := 1) (by simp [prs])).1
  have hg2 := (World.grownBy_alloc w (.cells #[.int .i64 10, .int .i64 10, .int .i64 4, .int .i64 4] 3) none).trans hg
  clear HX hown hg hx
  change w'.cell? _ = some (.int .i64 6) at h1
  go_wp2_with fail
  go_ret
  exact ⟨rfl, hg2⟩
end Go.Proofs.Ytfocpjjcllpfbaa
