/- Seeds and drawn numbers. -/
import Derived.Test.YtcdademaamoboaaSame
namespace Go.Proofs.Ytcdademaamoboaa
open Go.RowKit

def nextI (s : Int) : Int := (1103515245 * s + 12345) % 2147483648
theorem nextI_bd (s : Int) : 0 ≤ nextI s ∧ nextI s ≤ 2147483647 := by unfold nextI; omega
def drawnF (s : Int) : Nat := fop .quo .f32 (cn .f32 (floatOfInt .f32 (s / 65536 - 16384))) (cn .f32 1182793728)

theorem nextSeed_any (s : Int) (w : World) (h0 : 0 ≤ s) (h1 : s ≤ 2147483647) : Calls Try.prog 78 #[.int .i64 s] w fun e w' => e = .returned (.int .i64 (nextI s)) ∧ w = w' := by
  go_enter Try.func78, Try.ntmps78
  go_wp2
  go_ret
  exact ⟨rfl, rfl⟩
/-- A seed and a drawn number. -/
def DrawR (w : World) (s : Int) (e : Ending) (w' : World) : Prop := ∃ b n, e = .returned (.tuple #[.int .i64 s, .float .f32 b]) ∧ cn .f32 b = drawnF s ∧ w' = w.drewN n
theorem draw_any (s : Int) (w : World) (h0 : 0 ≤ s) (h1 : s ≤ 2147483647) : Calls Try.prog 49 #[.int .i64 s] w (DrawR w (nextI s)) := by
  have hb := nextI_bd s
  go_enter Try.func49, Try.ntmps49
  go_wp2_with (go_at_call 78; refine (nextSeed_any _ _ h0 h1).mono ?_; rintro e w' ⟨rfl, rfl⟩)
  go_ret2
  exact ⟨_, _, rfl, by rw [cn_fres]; rfl, rfl⟩
theorem l05Next_any (s : Int) (w : World) (h0 : 0 ≤ s) (h1 : s ≤ 2147483647) : Calls Try.prog 72 #[.int .i64 s] w fun e w' => e = .returned (.int .i64 (nextI s)) ∧ w = w' := by
  go_enter Try.func72, Try.ntmps72
  go_wp2
  go_ret
  exact ⟨rfl, rfl⟩
theorem l05Drawn_any (s : Int) (w : World) (h0 : 0 ≤ s) (h1 : s ≤ 2147483647) : Calls Try.prog 73 #[.int .i64 s] w fun e w' => ∃ b n, e = .returned (.float .f32 b) ∧ cn .f32 b = drawnF s ∧ w' = w.drewN n := by
  go_enter Try.func73, Try.ntmps73
  go_wp2
  go_ret
  exact ⟨_, _, rfl, by simp only [cn_fres]; rfl, rfl⟩
theorem isSeed_any (s : Int) (w : World) : Calls Try.prog 48 #[.int .i64 s] w fun e w' => e = .returned (.bool (decide (0 ≤ s) && decide (s ≤ 2147483647))) ∧ w = w' := by
  go_enter Try.func48, Try.ntmps48
  go_wp2_with (go_at_call 44; refine (within_any _ _ _ _).mono ?_; rintro e w' ⟨rfl, rfl⟩)
  go_ret
  exact ⟨rfl, rfl⟩
theorem l05Seed_any (s : Int) (w : World) : Calls Try.prog 71 #[.int .i64 s] w fun e w' => e = .returned (.bool (decide (0 ≤ s) && decide (s ≤ 2147483647))) ∧ w = w' := by
  go_enter Try.func71, Try.ntmps71
  go_wp2_with (go_at_call 42; refine (in_any _ _ _ _).mono ?_; rintro e w' ⟨rfl, rfl⟩)
  go_ret
  exact ⟨rfl, rfl⟩
theorem l04Seed_any (s : Int) (w : World) : Calls Try.prog 47 #[.int .i64 s] w fun e w' => e = .returned (.bool (decide (0 ≤ s) && decide (s ≤ 2147483647))) ∧ w = w' := by
  go_enter Try.func47, Try.ntmps47
  go_wp2_with (go_at_call 42; refine (in_any _ _ _ _).mono ?_; rintro e w' ⟨rfl, rfl⟩)
  go_ret
  exact ⟨rfl, rfl⟩
end Go.Proofs.Ytcdademaamoboaa
