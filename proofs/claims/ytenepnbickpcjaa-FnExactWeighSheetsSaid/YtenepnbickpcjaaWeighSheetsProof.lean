/- FnExactWeighSheets: the law returns true for every input. No condition. -/
import Derived.Test.YtenepnbickpcjaaWeLaw
import Derived.Test.YtenepnbickpcjaaOpenF2
import Derived.Test.YtenepnbickpcjaaFrame
namespace Go.Proofs.Ytenepnbickpcjaa
open Go.ChangeShapes Go.WideShapes Go.ChangeAt Go.RowKit
open Go.ChangeMaps (open_string shut_string)

theorem Tweigh_holds.own : ownKnob Try.prog.godebug = none := by kernel_rfl
theorem Tweigh_holds.laidOut : laidOutB Try.prog = true := by kernel_rfl

set_option maxRecDepth 100000 in
theorem weigh_holds_lifted (os : Os) (started : os.Started) (H : Type) (enc : TypeId × Value → H) :
    ReturnsInHanded {} Try.checked os 9 .any (Rows.fnExactWeighSheetsSpec.pre6 enc Try.prog Try.f9 Rows.fnExactWeighSheetsRow.domain false) (Rows.fnExactWeighSheetsSpec.post enc Try.prog Try.f9 false true false false) := by
  refine law_lifted (C := Try.checked) Tweigh_holds.own started (by kernel_rfl) Try.func9 Tweigh_holds.laidOut (by rw [show Try.f9.params.toList = [30, 30, 22, 22] from rfl]; intro t ht; simp only [List.mem_cons, List.not_mem_nil, or_false] at ht; rcases ht with rfl | rfl | rfl | rfl <;> exact ⟨by kernel_rfl, of_decide_eq_true (by kernel_rfl)⟩) rfl rfl Try.underlying4
    (fun ds h => by match ds, h with | [_, _, _, _], _ => exact ⟨rfl, rfl, rfl⟩)
    (ChangeSpec.witness6 (enc := enc) (C := Try.checked) false ⟨#[], #[.agg #[.int .i64 0, .int .i64 0, .slice none 0 0], .agg #[.int .i64 0, .int .i64 0, .slice none 0 0], .float .f32 0, .float .f32 0], []⟩ 8 (by kernel_rfl) (by kernel_rfl) (by kernel_rfl) (by kernel_rfl)) ?_
  intro W base args ds p hval hA _ _
  obtain ⟨v0, v1, v2, v3, d0, d1, d2, d3, p0, p1, p2, p3, rfl, rfl, rfl, h0, h1, h2, h3⟩ := trodAll_four hA
  obtain ⟨sw0, sh0, A0, c0, a0, rfl, hA0, hn0, ww0, wh0⟩ := open_sheet Try.underlying30 (by kernel_rfl) (by kernel_rfl) rfl rfl rfl Try.underlying2 Try.underlying28 Try.underlying22 (by kernel_rfl) (hval 0 30 v0 rfl rfl) h0
  obtain ⟨sw1, sh1, A1, c1, a1, rfl, hA1, hn1, ww1, wh1⟩ := open_sheet Try.underlying30 (by kernel_rfl) (by kernel_rfl) rfl rfl rfl Try.underlying2 Try.underlying28 Try.underlying22 (by kernel_rfl) (hval 1 30 v1 rfl rfl) h1
  obtain ⟨a2, rfl, rfl, rfl, w2⟩ := open_float Try.underlying22 (hval 2 22 v2 rfl rfl) h2
  obtain ⟨a3, rfl, rfl, rfl, w3⟩ := open_float Try.underlying22 (hval 3 22 v3 rfl rfl) h3
  exact weLaw sw0 sh0 sw1 sh1 A0 A1 c0 c1 a0 a1 a2 a3 W hA0 hA1 hn0 hn1

theorem weigh_holds : Rows.FnExactWeighSheetsSaid :=
  OpenClaim.holds_of_wide 9 Try.f9 rfl rfl rfl rfl rfl rfl rfl ⟨rfl, rfl, rfl, rfl, rfl⟩ rfl rfl rfl rfl rfl (by kernel_rfl) Try.func9 (by kernel_rfl)
    (of_decide_eq_true (by kernel_rfl)) (by unfold Func.isWrapper; first | (rw [if_pos (by decide +kernel)]; kernel_rfl) | (rw [if_neg (by decide +kernel)]; exact ⟨rfl, rfl⟩))
    (fun os started H enc _ => weigh_holds_lifted os started H enc)
end Go.Proofs.Ytenepnbickpcjaa
