/- FnExactSameGrammar: the law returns true for every input. No condition. -/
import Derived.Test.YtfblpibioegmkaaSGLaw
import Derived.Test.YtfblpibioegmkaaFrame
namespace Go.Proofs.Ytfblpibioegmkaa
open Go.ChangeShapes Go.WideShapes Go.ChangeAt Go.RowKit
open Go.ChangeMaps (open_string shut_string)

theorem TsameG_holds.own : ownKnob Try.prog.godebug = none := by kernel_rfl
theorem TsameG_holds.laidOut : laidOutB Try.prog = true := by kernel_rfl

set_option maxRecDepth 100000 in
theorem sameG_holds_lifted (os : Os) (started : os.Started) (H : Type) (enc : TypeId × Value → H) :
    ReturnsInHanded {} Try.checked os 7 .any (Rows.fnExactSameGrammarSpec.pre6 enc Try.prog Try.f7 Rows.fnExactSameGrammarRow.domain false) (Rows.fnExactSameGrammarSpec.post enc Try.prog Try.f7 false true false false) := by
  refine law_lifted (C := Try.checked) TsameG_holds.own started (by kernel_rfl) Try.func7 TsameG_holds.laidOut (by rw [show Try.f7.params.toList = [32, 32] from rfl]; intro t ht; simp only [List.mem_cons, List.not_mem_nil, or_false] at ht; rcases ht with rfl | rfl <;> exact ⟨by kernel_rfl, of_decide_eq_true (by kernel_rfl)⟩) rfl rfl Try.underlying4
    (fun ds h => by match ds, h with | [_, _], _ => exact ⟨rfl, rfl, rfl⟩)
    (ChangeSpec.witness6 (enc := enc) (C := Try.checked) false ⟨#[], #[.agg #[.string ⟨#[]⟩, .slice none 0 0], .agg #[.string ⟨#[]⟩, .slice none 0 0]], []⟩ 8 (by kernel_rfl) (by kernel_rfl) (by kernel_rfl) (by kernel_rfl)) ?_
  intro W base args ds p hval hA _ _
  obtain ⟨v0, v1, d0, d1, p0, p1, rfl, rfl, rfl, h0, h1⟩ := trodAll_two hA
  obtain ⟨s0, A0, c0, rs0, rfl, hA0, hn0, hs0, hz0⟩ := open_grammar Try.underlying32 (by kernel_rfl) (by kernel_rfl) rfl rfl Try.underlying9 Try.underlying30 Try.underlying51 (by kernel_rfl) rfl rfl (by kernel_rfl) (by kernel_rfl) Try.underlying9 Try.underlying9 (hval 0 32 v0 rfl rfl) h0
  obtain ⟨s1, A1, c1, rs1, rfl, hA1, hn1, hs1, hz1⟩ := open_grammar Try.underlying32 (by kernel_rfl) (by kernel_rfl) rfl rfl Try.underlying9 Try.underlying30 Try.underlying51 (by kernel_rfl) rfl rfl (by kernel_rfl) (by kernel_rfl) Try.underlying9 Try.underlying9 (hval 1 32 v1 rfl rfl) h1
  exact sameGLaw s0 s1 A0 A1 c0 c1 rs0 rs1 W hA0 hA1 hn0 hn1 hs0 hs1 hz0 hz1

theorem sameG_holds : Rows.FnExactSameGrammarSaid :=
  OpenClaim.holds_of_wide 7 Try.f7 rfl rfl rfl rfl rfl rfl rfl ⟨rfl, rfl, rfl, rfl, rfl⟩ rfl rfl rfl rfl rfl (by kernel_rfl) Try.func7 (by kernel_rfl)
    (of_decide_eq_true (by kernel_rfl)) (by unfold Func.isWrapper; first | (rw [if_pos (by decide +kernel)]; kernel_rfl) | (rw [if_neg (by decide +kernel)]; exact ⟨rfl, rfl⟩))
    (fun os started H enc _ => sameG_holds_lifted os started H enc)
end Go.Proofs.Ytfblpibioegmkaa
