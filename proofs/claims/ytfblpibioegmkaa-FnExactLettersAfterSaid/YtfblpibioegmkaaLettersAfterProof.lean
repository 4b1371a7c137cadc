/- FnExactLettersAfter: the law returns true for every input. No condition. -/
import Derived.Test.YtfblpibioegmkaaLALaw
import Derived.Test.YtfblpibioegmkaaFrame
namespace Go.Proofs.Ytfblpibioegmkaa
open Go.ChangeShapes Go.WideShapes Go.ChangeAt Go.RowKit
open Go.ChangeMaps (open_string shut_string)

theorem Tletters_holds.own : ownKnob Try.prog.godebug = none := by kernel_rfl
theorem Tletters_holds.laidOut : laidOutB Try.prog = true := by kernel_rfl

set_option maxRecDepth 100000 in
theorem letters_holds_lifted (os : Os) (started : os.Started) (H : Type) (enc : TypeId × Value → H) :
    ReturnsInHanded {} Try.checked os 12 .any (Rows.fnExactLettersAfterSpec.pre6 enc Try.prog Try.f12 Rows.fnExactLettersAfterRow.domain false) (Rows.fnExactLettersAfterSpec.post enc Try.prog Try.f12 false true false false) := by
  refine law_lifted (C := Try.checked) Tletters_holds.own started (by kernel_rfl) Try.func12 Tletters_holds.laidOut (by rw [show Try.f12.params.toList = [32, 2] from rfl]; intro t ht; simp at ht; rcases ht with rfl | rfl <;> exact ⟨by kernel_rfl, of_decide_eq_true (by kernel_rfl)⟩) rfl rfl Try.underlying4
    (fun ds h => by match ds, h with | [_, _], _ => exact ⟨rfl, rfl, rfl⟩)
    (ChangeSpec.witness6 (enc := enc) (C := Try.checked) false ⟨#[], #[.agg #[.string ⟨#[]⟩, .slice none 0 0], .int .i64 0], []⟩ 8 (by kernel_rfl) (by kernel_rfl) (by kernel_rfl) (by kernel_rfl)) ?_
  intro W base args ds p hval hA _ _
  obtain ⟨v0, v1, d0, d1, p0, p1, rfl, rfl, rfl, h0, h1⟩ := trodAll_two hA
  obtain ⟨a1, rfl, rfl, rfl, w1⟩ := open_int Try.underlying2 (hval 1 2 v1 rfl rfl) h1
  obtain ⟨s0, A0, c0, rs0, rfl, hA0, hn0, hs0, hz0⟩ := open_grammar Try.underlying32 (by kernel_rfl) (by kernel_rfl) rfl rfl Try.underlying9 Try.underlying30 Try.underlying51 (by kernel_rfl) rfl rfl (by kernel_rfl) (by kernel_rfl) Try.underlying9 Try.underlying9 (hval 0 32 v0 rfl rfl) h0
  exact laLaw s0 A0 c0 rs0 a1 W hA0 hn0 hs0 hz0

theorem letters_holds : Rows.FnExactLettersAfterSaid :=
  OpenClaim.holds_of_wide 12 Try.f12 rfl rfl rfl rfl rfl rfl rfl ⟨rfl, rfl, rfl, rfl, rfl⟩ rfl rfl rfl rfl rfl (by kernel_rfl) Try.func12 (by kernel_rfl)
    (of_decide_eq_true (by kernel_rfl)) (by unfold Func.isWrapper; first | (rw [if_pos (by decide +kernel)]; kernel_rfl) | (rw [if_neg (by decide +kernel)]; exact ⟨rfl, rfl⟩))
    (fun os started H enc _ => letters_holds_lifted os started H enc)
end Go.Proofs.Ytfblpibioegmkaa
