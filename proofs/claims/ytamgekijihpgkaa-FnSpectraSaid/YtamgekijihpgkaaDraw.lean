/- Seeds and drawn numbers. -/
import Derived.Test.YtamgekijihpgkaaSame
namespace Go.Proofs.Ytamgekijihpgkaa
open Go.RowKit

def nextI (s : Int) : Int := (1103515245 * s + 12345) % 2147483648
theorem nextI_bd (s : Int) : 0 ≤ nextI s ∧ nextI s ≤ 2147483647 := by unfold nextI; omega
def drawnF (s : Int) : Nat := fop .quo .f32 (cn .f32 (floatOfInt .f32 (s / 65536 - 16384))) (cn .f32 1182793728)

theorem nextSeed_any (s : Int) (w : World) (h0 : 0 ≤ s) (h1 : s ≤ 2147483647) : Calls Try.prog 36 #[.int .i64 s] w fun e w' => e = .returned (.int .i64 (nextI s)) ∧ w = w' := by
  go_enter Try.func36, Try.ntmps36
  go_wp2
  go_ret
  exact ⟨rfl, rfl⟩
/-- A seed and a drawn number. -/
def DrawR (w : World) (s : Int) (e : Ending) (w' : World) : Prop := ∃ b n, e = .returned (.tuple #[.int .i64 s, .float .f32 b]) ∧ cn .f32 b = drawnF s ∧ w' = w.drewN n
theorem draw_any (s : Int) (w : World) (h0 : 0 ≤ s) (h1 : s ≤ 2147483647) : Calls Try.prog 17 #[.int .i64 s] w (DrawR w (nextI s)) := by
  have hb := nextI_bd s
  go_enter Try.func17, Try.ntmps17
  go_wp2_with (go_at_call 36; refine (nextSeed_any _ _ h0 h1).mono ?_; rintro e w' ⟨rfl, rfl⟩)
  go_ret2
  exact ⟨_, _, rfl, by rw [cn_fres]; rfl, rfl⟩
theorem l05Next_any (s : Int) (w : World) (h0 : 0 ≤ s) (h1 : s ≤ 2147483647) : Calls Try.prog 24 #[.int .i64 s] w fun e w' => e = .returned (.int .i64 (nextI s)) ∧ w = w' := by
  go_enter Try.func24, Try.ntmps24
  go_wp2
  go_ret
  exact ⟨rfl, rfl⟩
theorem l05Drawn_any (s : Int) (w : World) (h0 : 0 ≤ s) (h1 : s ≤ 2147483647) : Calls Try.prog 25 #[.int .i64 s] w fun e w' => ∃ b n, e = .returned (.float .f32 b) ∧ cn .f32 b = drawnF s ∧ w' = w.drewN n := by
  go_enter Try.func25, Try.ntmps25
  go_wp2
  go_ret
  exact ⟨_, _, rfl, by simp only [cn_fres]; rfl, rfl⟩
theorem isSeed_any (s : Int) (w : World) : Calls Try.prog 16 #[.int .i64 s] w fun e w' => e = .returned (.bool (decide (0 ≤ s) && decide (s ≤ 2147483647))) ∧ w = w' := by
  go_enter Try.func16, Try.ntmps16
  go_wp2_with (go_at_call 15; refine (within_any _ _ _ _).mono ?_; rintro e w' ⟨rfl, rfl⟩)
  go_ret
  exact ⟨rfl, rfl⟩
theorem l05Seed_any (s : Int) (w : World) : Calls Try.prog 23 #[.int .i64 s] w fun e w' => e = .returned (.bool (decide (0 ≤ s) && decide (s ≤ 2147483647))) ∧ w = w' := by
  go_enter Try.func23, Try.ntmps23
  go_wp2_with (go_at_call 22; refine (in_any _ _ _ _).mono ?_; rintro e w' ⟨rfl, rfl⟩)
  go_ret
  exact ⟨rfl, rfl⟩
end Go.Proofs.Ytamgekijihpgkaa
