/- FnExactPutRule: the law returns true for every input. No condition. -/
import Derived.Test.YtfblpibioegmkaaPRLaw
import Derived.Test.YtfblpibioegmkaaFrame
namespace Go.Proofs.Ytfblpibioegmkaa
open Go.ChangeShapes Go.WideShapes Go.ChangeAt Go.RowKit
open Go.ChangeMaps (open_string shut_string)

theorem Tput_holds.own : ownKnob Try.prog.godebug = none := by kernel_rfl
theorem Tput_holds.laidOut : laidOutB Try.prog = true := by kernel_rfl

set_option maxRecDepth 100000 in
theorem put_holds_lifted (os : Os) (started : os.Started) (H : Type) (enc : TypeId × Value → H) :
    ReturnsInHanded {} Try.checked os 13 .any (Rows.fnExactPutRuleSpec.pre6 enc Try.prog Try.f13 Rows.fnExactPutRuleRow.domain false) (Rows.fnExactPutRuleSpec.post enc Try.prog Try.f13 false true false false) := by
  refine law_lifted (C := Try.checked) Tput_holds.own started (by kernel_rfl) Try.func13 Tput_holds.laidOut (by rw [show Try.f13.params.toList = [32, 51] from rfl]; intro t ht; simp at ht; rcases ht with rfl | rfl <;> exact ⟨by kernel_rfl, of_decide_eq_true (by kernel_rfl)⟩) rfl rfl Try.underlying4
    (fun ds h => by match ds, h with | [_, _], _ => exact ⟨rfl, rfl, rfl⟩)
    (ChangeSpec.witness6 (enc := enc) (C := Try.checked) false ⟨#[], #[.agg #[.string ⟨#[]⟩, .slice none 0 0], .agg #[.string ⟨#[]⟩, .string ⟨#[]⟩]], []⟩ 8 (by kernel_rfl) (by kernel_rfl) (by kernel_rfl) (by kernel_rfl)) ?_
  intro W base args ds p hval hA _ _
  obtain ⟨v0, v1, d0, d1, p0, p1, rfl, rfl, rfl, h0, h1⟩ := trodAll_two hA
  obtain ⟨s0, A0, c0, rs0, rfl, hA0, hn0, hs0, hz0⟩ := open_grammar Try.underlying32 (by kernel_rfl) (by kernel_rfl) rfl rfl Try.underlying9 Try.underlying30 Try.underlying51 (by kernel_rfl) rfl rfl (by kernel_rfl) (by kernel_rfl) Try.underlying9 Try.underlying9 (hval 0 32 v0 rfl rfl) h0
  obtain ⟨l1, t1, rfl, wl1, wt1⟩ := open_rule Try.underlying51 (by kernel_rfl) (by kernel_rfl) rfl rfl Try.underlying9 (hval 1 51 v1 rfl rfl) h1
  exact putLaw s0 A0 c0 rs0 (l1, t1) W hA0 hn0 hs0 hz0 wl1 wt1

theorem put_holds : Rows.FnExactPutRuleSaid :=
  OpenClaim.holds_of_wide 13 Try.f13 rfl rfl rfl rfl rfl rfl rfl ⟨rfl, rfl, rfl, rfl, rfl⟩ rfl rfl rfl rfl rfl (by kernel_rfl) Try.func13 (by kernel_rfl)
    (of_decide_eq_true (by kernel_rfl)) (by unfold Func.isWrapper; first | (rw [if_pos (by decide +kernel)]; kernel_rfl) | (rw [if_neg (by decide +kernel)]; exact ⟨rfl, rfl⟩))
    (fun os started H enc _ => put_holds_lifted os started H enc)
end Go.Proofs.Ytfblpibioegmkaa
