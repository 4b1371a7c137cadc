/- FnExactStairsAt: the law returns true for every number and every depth. No condition. -/
import Derived.Test.YtcdademaamoboaaStairs
import Derived.Test.YtcdademaamoboaaFrame
namespace Go.Proofs.Ytcdademaamoboaa
open Go.ChangeShapes Go.WideShapes Go.ChangeAt Go.RowKit

theorem T.own : ownKnob Try.prog.godebug = none := by kernel_rfl
theorem T.laidOut : laidOutB Try.prog = true := by kernel_rfl

set_option maxRecDepth 100000 in
theorem stairs_lifted (os : Os) (started : os.Started) (H : Type) (enc : TypeId × Value → H) :
    ReturnsInHanded {} Try.checked os 3 .any (Rows.fnExactStairsAtSpec.pre6 enc Try.prog Try.f3 Rows.fnExactStairsAtRow.domain false) (Rows.fnExactStairsAtSpec.post enc Try.prog Try.f3 false true false false) := by
  refine law_lifted (C := Try.checked) T.own started (by kernel_rfl) Try.func3 T.laidOut (by rw [show Try.f3.params.toList = [22, 2] from rfl]; intro t ht; simp at ht; rcases ht with rfl | rfl <;> exact ⟨by kernel_rfl, of_decide_eq_true (by kernel_rfl)⟩) rfl rfl Try.underlying4
    (fun ds h => by match ds, h with | [_, _], _ => exact ⟨rfl, rfl, rfl⟩)
    (ChangeSpec.witness6 (enc := enc) (C := Try.checked) false ⟨#[], #[.float .f32 0, .int .i64 0], []⟩ 8 (by kernel_rfl) (by kernel_rfl) (by kernel_rfl) (by kernel_rfl)) ?_
  intro W base args ds p hval hA _ _
  obtain ⟨v0, v1, d0, d1, p0, p1, rfl, rfl, rfl, h0, h1⟩ := trodAll_two hA
  obtain ⟨a, rfl, rfl, rfl, wa⟩ := open_float Try.underlying22 (hval 0 22 v0 rfl rfl) h0
  obtain ⟨b, rfl, rfl, rfl, wb⟩ := open_int Try.underlying2 (hval 1 2 v1 rfl rfl) h1
  exact stairsLaw a b W

theorem stairs_holds : Rows.FnExactStairsAtSaid :=
  OpenClaim.holds_of_wide 3 Try.f3 rfl rfl rfl rfl rfl rfl rfl ⟨rfl, rfl, rfl, rfl, rfl⟩ rfl rfl rfl rfl rfl (by kernel_rfl) Try.func3 (by kernel_rfl)
    (of_decide_eq_true (by kernel_rfl)) (by unfold Func.isWrapper; first | (rw [if_pos (by decide +kernel)]; kernel_rfl) | (rw [if_neg (by decide +kernel)]; exact ⟨rfl, rfl⟩))
    (fun os started H enc _ => stairs_lifted os started H enc)
end Go.Proofs.Ytcdademaamoboaa
