/- FnExactIslandsOver: the law returns true for every input. No condition. -/
import Derived.Test.YtembgpjdgggjlaaOpenF2
import Derived.Test.YtembgpjdgggjlaaIslLaw
import Derived.Test.YtembgpjdgggjlaaFrame
namespace Go.Proofs.Ytembgpjdgggjlaa
open Go.ChangeShapes Go.WideShapes Go.ChangeAt Go.RowKit
open Go.ChangeMaps (open_string shut_string)

theorem Tisl_holds.own : ownKnob Try.prog.godebug = none := by kernel_rfl
theorem Tisl_holds.laidOut : laidOutB Try.prog = true := by kernel_rfl

set_option maxRecDepth 100000 in
theorem isl_holds_lifted (os : Os) (started : os.Started) (H : Type) (enc : TypeId × Value → H) :
    ReturnsInHanded {} Try.checked os 6 .any (Rows.fnExactIslandsOverSpec.pre6 enc Try.prog Try.f6 Rows.fnExactIslandsOverRow.domain false) (Rows.fnExactIslandsOverSpec.post enc Try.prog Try.f6 false true false false) := by
  refine law_lifted (C := Try.checked) Tisl_holds.own started (by kernel_rfl) Try.func6 Tisl_holds.laidOut (by rw [show Try.f6.params.toList = [24, 26] from rfl]; intro t ht; simp at ht; rcases ht with rfl | rfl <;> exact ⟨by kernel_rfl, of_decide_eq_true (by kernel_rfl)⟩) rfl rfl Try.underlying4
    (fun ds h => by match ds, h with | [_, _], _ => exact ⟨rfl, rfl, rfl⟩)
    (ChangeSpec.witness6 (enc := enc) (C := Try.checked) false ⟨#[], #[.agg #[.int .i64 0, .int .i64 0, .slice none 0 0], .float .f32 0], []⟩ 8 (by kernel_rfl) (by kernel_rfl) (by kernel_rfl) (by kernel_rfl)) ?_
  intro W base args ds p hval hA _ _
  obtain ⟨v0, v1, d0, d1, p0, p1, rfl, rfl, rfl, h0, h1⟩ := trodAll_two hA
  obtain ⟨sw0, sh0, A0, c0, a0, rfl, hA0, hn0, ww0, wh0⟩ := open_sheet Try.underlying24 (by kernel_rfl) (by kernel_rfl) rfl rfl rfl Try.underlying2 Try.underlying22 Try.underlying26 (by kernel_rfl) (hval 0 24 v0 rfl rfl) h0
  obtain ⟨a1, rfl, rfl, rfl, w1⟩ := open_float Try.underlying26 (hval 1 26 v1 rfl rfl) h1
  exact islLaw sw0 sh0 A0 c0 a0 a1 W hA0 hn0

theorem isl_holds : Rows.FnExactIslandsOverSaid :=
  OpenClaim.holds_of_wide 6 Try.f6 rfl rfl rfl rfl rfl rfl rfl ⟨rfl, rfl, rfl, rfl, rfl⟩ rfl rfl rfl rfl rfl (by kernel_rfl) Try.func6 (by kernel_rfl)
    (of_decide_eq_true (by kernel_rfl)) (by unfold Func.isWrapper; first | (rw [if_pos (by decide +kernel)]; kernel_rfl) | (rw [if_neg (by decide +kernel)]; exact ⟨rfl, rfl⟩))
    (fun os started H enc _ => isl_holds_lifted os started H enc)
end Go.Proofs.Ytembgpjdgggjlaa
