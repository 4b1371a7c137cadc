/- FnExactSlopeOf: the law returns true for every input. No condition. -/
import Derived.Test.YtcdademaamoboaaSlope2
import Derived.Test.YtcdademaamoboaaFrame
namespace Go.Proofs.Ytcdademaamoboaa
open Go.ChangeShapes Go.WideShapes Go.ChangeAt Go.RowKit
open Go.ChangeMaps (open_string shut_string)

theorem Tslope_holds.own : ownKnob Try.prog.godebug = none := by kernel_rfl
theorem Tslope_holds.laidOut : laidOutB Try.prog = true := by kernel_rfl

set_option maxRecDepth 100000 in
theorem slope_holds_lifted (os : Os) (started : os.Started) (H : Type) (enc : TypeId × Value → H) :
    ReturnsInHanded {} Try.checked os 10 .any (Rows.fnExactSlopeOfSpec.pre6 enc Try.prog Try.f10 Rows.fnExactSlopeOfRow.domain false) (Rows.fnExactSlopeOfSpec.post enc Try.prog Try.f10 false true false false) := by
  refine law_lifted (C := Try.checked) Tslope_holds.own started (by kernel_rfl) Try.func10 Tslope_holds.laidOut (by rw [show Try.f10.params.toList = [28, 28] from rfl]; intro t ht; simp only [List.mem_cons, List.not_mem_nil, or_false] at ht; rcases ht with rfl | rfl <;> exact ⟨by kernel_rfl, of_decide_eq_true (by kernel_rfl)⟩) rfl rfl Try.underlying4
    (fun ds h => by match ds, h with | [_, _], _ => exact ⟨rfl, rfl, rfl⟩)
    (ChangeSpec.witness6 (enc := enc) (C := Try.checked) false ⟨#[], #[.slice none 0 0, .slice none 0 0], []⟩ 8 (by kernel_rfl) (by kernel_rfl) (by kernel_rfl) (by kernel_rfl)) ?_
  intro W base args ds p hval hA _ _
  obtain ⟨v0, v1, d0, d1, p0, p1, rfl, rfl, rfl, h0, h1⟩ := trodAll_two hA
  obtain ⟨A0, c0, a0, rfl, hA0, hn0⟩ := open_f32s Try.underlying28 Try.underlying22 (by kernel_rfl) (hval 0 28 v0 rfl rfl) h0
  obtain ⟨A1, c1, a1, rfl, hA1, hn1⟩ := open_f32s Try.underlying28 Try.underlying22 (by kernel_rfl) (hval 1 28 v1 rfl rfl) h1
  exact slopeLaw A0 A1 c0 c1 a0 a1 W hA0 hn0 hA1 hn1

theorem slope_holds : Rows.FnExactSlopeOfSaid :=
  OpenClaim.holds_of_wide 10 Try.f10 rfl rfl rfl rfl rfl rfl rfl ⟨rfl, rfl, rfl, rfl, rfl⟩ rfl rfl rfl rfl rfl (by kernel_rfl) Try.func10 (by kernel_rfl)
    (of_decide_eq_true (by kernel_rfl)) (by unfold Func.isWrapper; first | (rw [if_pos (by decide +kernel)]; kernel_rfl) | (rw [if_neg (by decide +kernel)]; exact ⟨rfl, rfl⟩))
    (fun os started H enc _ => slope_holds_lifted os started H enc)
end Go.Proofs.Ytcdademaamoboaa
