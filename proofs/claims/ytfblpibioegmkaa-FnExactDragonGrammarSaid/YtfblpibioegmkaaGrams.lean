/- FnExactBushGrammar, FnExactDragonGrammar, FnExactKochGrammar: the law returns true. No condition. -/
import Derived.Test.YtfblpibioegmkaaD
import Derived.Test.YtfblpibioegmkaaFrame
namespace Go.Proofs.Ytfblpibioegmkaa
open Go.ChangeShapes Go.WideShapes Go.ChangeAt Go.RowKit

theorem T.own : ownKnob Try.prog.godebug = none := by kernel_rfl
theorem T.laidOut : laidOutB Try.prog = true := by kernel_rfl

set_option maxRecDepth 100000 in
theorem bush_lifted (os : Os) (started : os.Started) (H : Type) (enc : TypeId × Value → H) :
    ReturnsInHanded {} Try.checked os 4 .any (Rows.fnExactBushGrammarSpec.pre6 enc Try.prog Try.f4 Rows.fnExactBushGrammarRow.domain false) (Rows.fnExactBushGrammarSpec.post enc Try.prog Try.f4 false true false false) := by
  refine law_lifted (C := Try.checked) T.own started (by kernel_rfl) Try.func4 T.laidOut (by intro t ht; cases ht) rfl rfl Try.underlying4
    (fun ds h => by match ds, h with | [], _ => exact ⟨rfl, rfl, rfl⟩)
    (ChangeSpec.witness6 (enc := enc) (C := Try.checked) false ⟨#[], #[], []⟩ 8 (by kernel_rfl) (by kernel_rfl) (by kernel_rfl) (by kernel_rfl)) ?_
  intro W base args ds p _ hA _ _
  obtain ⟨rfl, rfl, rfl⟩ := trodAll_none hA
  exact bushLaw W

theorem bush_holds : Rows.FnExactBushGrammarSaid :=
  OpenClaim.holds_of_wide 4 Try.f4 rfl rfl rfl rfl rfl rfl rfl ⟨rfl, rfl, rfl, rfl, rfl⟩ rfl rfl rfl rfl rfl (by kernel_rfl) Try.func4 (by kernel_rfl)
    (of_decide_eq_true (by kernel_rfl)) (by unfold Func.isWrapper; first | (rw [if_pos (by decide +kernel)]; kernel_rfl) | (rw [if_neg (by decide +kernel)]; exact ⟨rfl, rfl⟩))
    (fun os started H enc _ => bush_lifted os started H enc)

set_option maxRecDepth 100000 in
theorem dragon_lifted (os : Os) (started : os.Started) (H : Type) (enc : TypeId × Value → H) :
    ReturnsInHanded {} Try.checked os 5 .any (Rows.fnExactDragonGrammarSpec.pre6 enc Try.prog Try.f5 Rows.fnExactDragonGrammarRow.domain false) (Rows.fnExactDragonGrammarSpec.post enc Try.prog Try.f5 false true false false) := by
  refine law_lifted (C := Try.checked) T.own started (by kernel_rfl) Try.func5 T.laidOut (by intro t ht; cases ht) rfl rfl Try.underlying4
    (fun ds h => by match ds, h with | [], _ => exact ⟨rfl, rfl, rfl⟩)
    (ChangeSpec.witness6 (enc := enc) (C := Try.checked) false ⟨#[], #[], []⟩ 8 (by kernel_rfl) (by kernel_rfl) (by kernel_rfl) (by kernel_rfl)) ?_
  intro W base args ds p _ hA _ _
  obtain ⟨rfl, rfl, rfl⟩ := trodAll_none hA
  exact dragonLaw W

theorem dragon_holds : Rows.FnExactDragonGrammarSaid :=
  OpenClaim.holds_of_wide 5 Try.f5 rfl rfl rfl rfl rfl rfl rfl ⟨rfl, rfl, rfl, rfl, rfl⟩ rfl rfl rfl rfl rfl (by kernel_rfl) Try.func5 (by kernel_rfl)
    (of_decide_eq_true (by kernel_rfl)) (by unfold Func.isWrapper; first | (rw [if_pos (by decide +kernel)]; kernel_rfl) | (rw [if_neg (by decide +kernel)]; exact ⟨rfl, rfl⟩))
    (fun os started H enc _ => dragon_lifted os started H enc)

set_option maxRecDepth 100000 in
theorem koch_lifted (os : Os) (started : os.Started) (H : Type) (enc : TypeId × Value → H) :
    ReturnsInHanded {} Try.checked os 6 .any (Rows.fnExactKochGrammarSpec.pre6 enc Try.prog Try.f6 Rows.fnExactKochGrammarRow.domain false) (Rows.fnExactKochGrammarSpec.post enc Try.prog Try.f6 false true false false) := by
  refine law_lifted (C := Try.checked) T.own started (by kernel_rfl) Try.func6 T.laidOut (by intro t ht; cases ht) rfl rfl Try.underlying4
    (fun ds h => by match ds, h with | [], _ => exact ⟨rfl, rfl, rfl⟩)
    (ChangeSpec.witness6 (enc := enc) (C := Try.checked) false ⟨#[], #[], []⟩ 8 (by kernel_rfl) (by kernel_rfl) (by kernel_rfl) (by kernel_rfl)) ?_
  intro W base args ds p _ hA _ _
  obtain ⟨rfl, rfl, rfl⟩ := trodAll_none hA
  exact kochLaw W

theorem koch_holds : Rows.FnExactKochGrammarSaid :=
  OpenClaim.holds_of_wide 6 Try.f6 rfl rfl rfl rfl rfl rfl rfl ⟨rfl, rfl, rfl, rfl, rfl⟩ rfl rfl rfl rfl rfl (by kernel_rfl) Try.func6 (by kernel_rfl)
    (of_decide_eq_true (by kernel_rfl)) (by unfold Func.isWrapper; first | (rw [if_pos (by decide +kernel)]; kernel_rfl) | (rw [if_neg (by decide +kernel)]; exact ⟨rfl, rfl⟩))
    (fun os started H enc _ => koch_lifted os started H enc)
end Go.Proofs.Ytfblpibioegmkaa
