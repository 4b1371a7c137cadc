/- FnExactCantorSet: the law returns true for every input. No condition. -/
import Derived.Test.YtcdademaamoboaaCantorLaw
import Derived.Test.YtcdademaamoboaaFrame
namespace Go.Proofs.Ytcdademaamoboaa
open Go.ChangeShapes Go.WideShapes Go.ChangeAt Go.RowKit
open Go.ChangeMaps (open_string shut_string)

theorem Tcantor_holds.own : ownKnob Try.prog.godebug = none := by kernel_rfl
theorem Tcantor_holds.laidOut : laidOutB Try.prog = true := by kernel_rfl

set_option maxRecDepth 100000 in
theorem cantor_holds_lifted (os : Os) (started : os.Started) (H : Type) (enc : TypeId × Value → H) :
    ReturnsInHanded {} Try.checked os 5 .any (Rows.fnExactCantorSetSpec.pre6 enc Try.prog Try.f5 Rows.fnExactCantorSetRow.domain false) (Rows.fnExactCantorSetSpec.post enc Try.prog Try.f5 false true false false) := by
  refine law_lifted (C := Try.checked) Tcantor_holds.own started (by kernel_rfl) Try.func5 Tcantor_holds.laidOut (by rw [show Try.f5.params.toList = [2] from rfl]; intro t ht; simp at ht; subst ht <;> exact ⟨by kernel_rfl, of_decide_eq_true (by kernel_rfl)⟩) rfl rfl Try.underlying4
    (fun ds h => by match ds, h with | [_], _ => exact ⟨rfl, rfl, rfl⟩)
    (ChangeSpec.witness6 (enc := enc) (C := Try.checked) false ⟨#[], #[.int .i64 0], []⟩ 8 (by kernel_rfl) (by kernel_rfl) (by kernel_rfl) (by kernel_rfl)) ?_
  intro W base args ds p hval hA _ _
  obtain ⟨v0, d0, rfl, rfl, h0⟩ := trodAll_one hA
  obtain ⟨a0, rfl, rfl, rfl, w0⟩ := open_int Try.underlying2 (hval 0 2 v0 rfl rfl) h0
  exact cantorLaw a0 W

theorem cantor_holds : Rows.FnExactCantorSetSaid :=
  OpenClaim.holds_of_wide 5 Try.f5 rfl rfl rfl rfl rfl rfl rfl ⟨rfl, rfl, rfl, rfl, rfl⟩ rfl rfl rfl rfl rfl (by kernel_rfl) Try.func5 (by kernel_rfl)
    (of_decide_eq_true (by kernel_rfl)) (by unfold Func.isWrapper; first | (rw [if_pos (by decide +kernel)]; kernel_rfl) | (rw [if_neg (by decide +kernel)]; exact ⟨rfl, rfl⟩))
    (fun os started H enc _ => cantor_holds_lifted os started H enc)
end Go.Proofs.Ytcdademaamoboaa
