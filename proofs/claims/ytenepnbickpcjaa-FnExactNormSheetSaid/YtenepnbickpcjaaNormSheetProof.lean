/- FnExactNormSheet: the law returns true for every input. No condition. -/
import Derived.Test.YtenepnbickpcjaaNormLaw
import Derived.Test.YtenepnbickpcjaaOpenF2
import Derived.Test.YtenepnbickpcjaaFrame
namespace Go.Proofs.Ytenepnbickpcjaa
open Go.ChangeShapes Go.WideShapes Go.ChangeAt Go.RowKit
open Go.ChangeMaps (open_string shut_string)

theorem Tnorm_holds.own : ownKnob Try.prog.godebug = none := by kernel_rfl
theorem Tnorm_holds.laidOut : laidOutB Try.prog = true := by kernel_rfl

set_option maxRecDepth 100000 in
theorem norm_holds_lifted (os : Os) (started : os.Started) (H : Type) (enc : TypeId × Value → H) :
    ReturnsInHanded {} Try.checked os 11 .any (Rows.fnExactNormSheetSpec.pre6 enc Try.prog Try.f11 Rows.fnExactNormSheetRow.domain false) (Rows.fnExactNormSheetSpec.post enc Try.prog Try.f11 false true false false) := by
  refine law_lifted (C := Try.checked) Tnorm_holds.own started (by kernel_rfl) Try.func11 Tnorm_holds.laidOut (by rw [show Try.f11.params.toList = [30] from rfl]; intro t ht; simp at ht; subst ht <;> exact ⟨by kernel_rfl, of_decide_eq_true (by kernel_rfl)⟩) rfl rfl Try.underlying4
    (fun ds h => by match ds, h with | [_], _ => exact ⟨rfl, rfl, rfl⟩)
    (ChangeSpec.witness6 (enc := enc) (C := Try.checked) false ⟨#[], #[.agg #[.int .i64 0, .int .i64 0, .slice none 0 0]], []⟩ 8 (by kernel_rfl) (by kernel_rfl) (by kernel_rfl) (by kernel_rfl)) ?_
  intro W base args ds p hval hA _ _
  obtain ⟨v0, d0, rfl, rfl, h0⟩ := trodAll_one hA
  obtain ⟨sw0, sh0, A0, c0, a0, rfl, hA0, hn0, ww0, wh0⟩ := open_sheet Try.underlying30 (by kernel_rfl) (by kernel_rfl) rfl rfl rfl Try.underlying2 Try.underlying28 Try.underlying22 (by kernel_rfl) (hval 0 30 v0 rfl rfl) h0
  exact normLaw sw0 sh0 A0 c0 a0 W hA0 hn0

theorem norm_holds : Rows.FnExactNormSheetSaid :=
  OpenClaim.holds_of_wide 11 Try.f11 rfl rfl rfl rfl rfl rfl rfl ⟨rfl, rfl, rfl, rfl, rfl⟩ rfl rfl rfl rfl rfl (by kernel_rfl) Try.func11 (by kernel_rfl)
    (of_decide_eq_true (by kernel_rfl)) (by unfold Func.isWrapper; first | (rw [if_pos (by decide +kernel)]; kernel_rfl) | (rw [if_neg (by decide +kernel)]; exact ⟨rfl, rfl⟩))
    (fun os started H enc _ => norm_holds_lifted os started H enc)
end Go.Proofs.Ytenepnbickpcjaa
