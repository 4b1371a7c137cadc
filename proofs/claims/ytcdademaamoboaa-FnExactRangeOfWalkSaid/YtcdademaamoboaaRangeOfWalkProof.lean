/- FnExactRangeOfWalk: the law returns true for every input. No condition. -/
import Derived.Test.YtcdademaamoboaaRange
import Derived.Test.YtcdademaamoboaaFrame
namespace Go.Proofs.Ytcdademaamoboaa
open Go.ChangeShapes Go.WideShapes Go.ChangeAt Go.RowKit
open Go.ChangeMaps (open_string shut_string)

theorem Trange_holds.own : ownKnob Try.prog.godebug = none := by kernel_rfl
theorem Trange_holds.laidOut : laidOutB Try.prog = true := by kernel_rfl

set_option maxRecDepth 100000 in
theorem range_holds_lifted (os : Os) (started : os.Started) (H : Type) (enc : TypeId × Value → H) :
    ReturnsInHanded {} Try.checked os 9 .any (Rows.fnExactRangeOfWalkSpec.pre6 enc Try.prog Try.f9 Rows.fnExactRangeOfWalkRow.domain false) (Rows.fnExactRangeOfWalkSpec.post enc Try.prog Try.f9 false true false false) := by
  refine law_lifted (C := Try.checked) Trange_holds.own started (by kernel_rfl) Try.func9 Trange_holds.laidOut (by rw [show Try.f9.params.toList = [28] from rfl]; intro t ht; simp at ht; subst ht <;> exact ⟨by kernel_rfl, of_decide_eq_true (by kernel_rfl)⟩) rfl rfl Try.underlying4
    (fun ds h => by match ds, h with | [_], _ => exact ⟨rfl, rfl, rfl⟩)
    (ChangeSpec.witness6 (enc := enc) (C := Try.checked) false ⟨#[], #[.slice none 0 0], []⟩ 8 (by kernel_rfl) (by kernel_rfl) (by kernel_rfl) (by kernel_rfl)) ?_
  intro W base args ds p hval hA _ _
  obtain ⟨v0, d0, rfl, rfl, h0⟩ := trodAll_one hA
  obtain ⟨A0, c0, a0, rfl, hA0, hn0⟩ := open_f32s Try.underlying28 Try.underlying22 (by kernel_rfl) (hval 0 28 v0 rfl rfl) h0
  exact rangeLaw A0 c0 a0 W hA0 hn0

theorem range_holds : Rows.FnExactRangeOfWalkSaid :=
  OpenClaim.holds_of_wide 9 Try.f9 rfl rfl rfl rfl rfl rfl rfl ⟨rfl, rfl, rfl, rfl, rfl⟩ rfl rfl rfl rfl rfl (by kernel_rfl) Try.func9 (by kernel_rfl)
    (of_decide_eq_true (by kernel_rfl)) (by unfold Func.isWrapper; first | (rw [if_pos (by decide +kernel)]; kernel_rfl) | (rw [if_neg (by decide +kernel)]; exact ⟨rfl, rfl⟩))
    (fun os started H enc _ => range_holds_lifted os started H enc)
end Go.Proofs.Ytcdademaamoboaa
