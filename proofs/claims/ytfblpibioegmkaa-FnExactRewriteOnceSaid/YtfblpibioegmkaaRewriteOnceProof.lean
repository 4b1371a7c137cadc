/- FnExactRewriteOnce: the law returns true for every input. No condition. -/
import Derived.Test.YtfblpibioegmkaaROLaw
import Derived.Test.YtfblpibioegmkaaFrame
namespace Go.Proofs.Ytfblpibioegmkaa
open Go.ChangeShapes Go.WideShapes Go.ChangeAt Go.RowKit
open Go.ChangeMaps (open_string shut_string)

theorem TrewriteOnce_holds.own : ownKnob Try.prog.godebug = none := by kernel_rfl
theorem TrewriteOnce_holds.laidOut : laidOutB Try.prog = true := by kernel_rfl

set_option maxRecDepth 100000 in
theorem rewriteOnce_holds_lifted (os : Os) (started : os.Started) (H : Type) (enc : TypeId × Value → H) :
    ReturnsInHanded {} Try.checked os 9 .any (Rows.fnExactRewriteOnceSpec.pre6 enc Try.prog Try.f9 Rows.fnExactRewriteOnceRow.domain false) (Rows.fnExactRewriteOnceSpec.post enc Try.prog Try.f9 false true false false) := by
  refine law_lifted (C := Try.checked) TrewriteOnce_holds.own started (by kernel_rfl) Try.func9 TrewriteOnce_holds.laidOut (by rw [show Try.f9.params.toList = [32, 9] from rfl]; intro t ht; simp at ht; rcases ht with rfl | rfl <;> exact ⟨by kernel_rfl, of_decide_eq_true (by kernel_rfl)⟩) rfl rfl Try.underlying4
    (fun ds h => by match ds, h with | [_, _], _ => exact ⟨rfl, rfl, rfl⟩)
    (ChangeSpec.witness6 (enc := enc) (C := Try.checked) false ⟨#[], #[.agg #[.string ⟨#[]⟩, .slice none 0 0], .string ⟨#[]⟩], []⟩ 8 (by kernel_rfl) (by kernel_rfl) (by kernel_rfl) (by kernel_rfl)) ?_
  intro W base args ds p hval hA _ _
  obtain ⟨v0, v1, d0, d1, p0, p1, rfl, rfl, rfl, h0, h1⟩ := trodAll_two hA
  obtain ⟨a1, rfl, rfl, rfl, w1⟩ := open_string Try.underlying9 (hval 1 9 v1 rfl rfl) h1
  obtain ⟨s0, A0, c0, rs0, rfl, hA0, hn0, hs0, hz0⟩ := open_grammar Try.underlying32 (by kernel_rfl) (by kernel_rfl) rfl rfl Try.underlying9 Try.underlying30 Try.underlying51 (by kernel_rfl) rfl rfl (by kernel_rfl) (by kernel_rfl) Try.underlying9 Try.underlying9 (hval 0 32 v0 rfl rfl) h0
  exact roLaw s0 A0 c0 rs0 a1 w1 W hA0 hn0 hs0 hz0

theorem rewriteOnce_holds : Rows.FnExactRewriteOnceSaid :=
  OpenClaim.holds_of_wide 9 Try.f9 rfl rfl rfl rfl rfl rfl rfl ⟨rfl, rfl, rfl, rfl, rfl⟩ rfl rfl rfl rfl rfl (by kernel_rfl) Try.func9 (by kernel_rfl)
    (of_decide_eq_true (by kernel_rfl)) (by unfold Func.isWrapper; first | (rw [if_pos (by decide +kernel)]; kernel_rfl) | (rw [if_neg (by decide +kernel)]; exact ⟨rfl, rfl⟩))
    (fun os started H enc _ => rewriteOnce_holds_lifted os started H enc)
end Go.Proofs.Ytfblpibioegmkaa
