/- FnExactValidGrammar: the law returns true for every input. No condition. -/
import Derived.Test.YtfblpibioegmkaaVGLaw
import Derived.Test.YtfblpibioegmkaaFrame
namespace Go.Proofs.Ytfblpibioegmkaa
open Go.ChangeShapes Go.WideShapes Go.ChangeAt Go.RowKit
open Go.ChangeMaps (open_string shut_string)

theorem TvalidG_holds.own : ownKnob Try.prog.godebug = none := by kernel_rfl
theorem TvalidG_holds.laidOut : laidOutB Try.prog = true := by kernel_rfl

set_option maxRecDepth 100000 in
theorem validG_holds_lifted (os : Os) (started : os.Started) (H : Type) (enc : TypeId × Value → H) :
    ReturnsInHanded {} Try.checked os 8 .any (Rows.fnExactValidGrammarSpec.pre6 enc Try.prog Try.f8 Rows.fnExactValidGrammarRow.domain false) (Rows.fnExactValidGrammarSpec.post enc Try.prog Try.f8 false true false false) := by
  refine law_lifted (C := Try.checked) TvalidG_holds.own started (by kernel_rfl) Try.func8 TvalidG_holds.laidOut (by rw [show Try.f8.params.toList = [32] from rfl]; intro t ht; simp at ht; subst ht <;> exact ⟨by kernel_rfl, of_decide_eq_true (by kernel_rfl)⟩) rfl rfl Try.underlying4
    (fun ds h => by match ds, h with | [_], _ => exact ⟨rfl, rfl, rfl⟩)
    (ChangeSpec.witness6 (enc := enc) (C := Try.checked) false ⟨#[], #[.agg #[.string ⟨#[]⟩, .slice none 0 0]], []⟩ 8 (by kernel_rfl) (by kernel_rfl) (by kernel_rfl) (by kernel_rfl)) ?_
  intro W base args ds p hval hA _ _
  obtain ⟨v0, d0, rfl, rfl, h0⟩ := trodAll_one hA
  obtain ⟨s0, A0, c0, rs0, rfl, hA0, hn0, hs0, hz0⟩ := open_grammar Try.underlying32 (by kernel_rfl) (by kernel_rfl) rfl rfl Try.underlying9 Try.underlying30 Try.underlying51 (by kernel_rfl) rfl rfl (by kernel_rfl) (by kernel_rfl) Try.underlying9 Try.underlying9 (hval 0 32 v0 rfl rfl) h0
  exact validGLaw s0 A0 c0 rs0 W hA0 hn0 hs0 hz0

theorem validG_holds : Rows.FnExactValidGrammarSaid :=
  OpenClaim.holds_of_wide 8 Try.f8 rfl rfl rfl rfl rfl rfl rfl ⟨rfl, rfl, rfl, rfl, rfl⟩ rfl rfl rfl rfl rfl (by kernel_rfl) Try.func8 (by kernel_rfl)
    (of_decide_eq_true (by kernel_rfl)) (by unfold Func.isWrapper; first | (rw [if_pos (by decide +kernel)]; kernel_rfl) | (rw [if_neg (by decide +kernel)]; exact ⟨rfl, rfl⟩))
    (fun os started H enc _ => validG_holds_lifted os started H enc)
end Go.Proofs.Ytfblpibioegmkaa
