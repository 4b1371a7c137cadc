/- FnWords: the law returns true for every input. No condition. -/
import Derived.Test.YtfblpibioegmkaaWLaw
import Derived.Test.YtfblpibioegmkaaOpenB
import Derived.Test.YtfblpibioegmkaaFrame
namespace Go.Proofs.Ytfblpibioegmkaa
open Go.ChangeShapes Go.WideShapes Go.ChangeAt Go.RowKit
open Go.ChangeMaps (open_string shut_string)

theorem Twords_holds.own : ownKnob Try.prog.godebug = none := by kernel_rfl
theorem Twords_holds.laidOut : laidOutB Try.prog = true := by kernel_rfl

set_option maxRecDepth 100000 in
theorem words_holds_lifted (os : Os) (started : os.Started) (H : Type) (enc : TypeId × Value → H) :
    ReturnsInHanded {} Try.checked os 14 .any (Rows.fnWordsSpec.pre6 enc Try.prog Try.f14 Rows.fnWordsRow.domain false) (Rows.fnWordsSpec.post enc Try.prog Try.f14 false true false false) := by
  refine law_lifted (C := Try.checked) Twords_holds.own started (by kernel_rfl) Try.func14 Twords_holds.laidOut (by rw [show Try.f14.params.toList = [58, 58] from rfl]; intro t ht; simp only [List.mem_cons, List.not_mem_nil, or_false] at ht; rcases ht with rfl | rfl <;> exact ⟨by kernel_rfl, of_decide_eq_true (by kernel_rfl)⟩) rfl rfl Try.underlying4
    (fun ds h => by match ds, h with | [_, _], _ => exact ⟨rfl, rfl, rfl⟩)
    (ChangeSpec.witness6 (enc := enc) (C := Try.checked) false ⟨#[], #[.slice none 0 0, .slice none 0 0], []⟩ 8 (by kernel_rfl) (by kernel_rfl) (by kernel_rfl) (by kernel_rfl)) ?_
  intro W base args ds p hval hA _ _
  obtain ⟨v0, v1, d0, d1, p0, p1, rfl, rfl, rfl, h0, h1⟩ := trodAll_two hA
  obtain ⟨A0, L0, c0, rfl, hA0, hn0⟩ := open_bytes Try.underlying58 Try.underlying5 (by kernel_rfl) (hval 0 58 v0 rfl rfl) h0
  obtain ⟨A1, L1, c1, rfl, hA1, hn1⟩ := open_bytes Try.underlying58 Try.underlying5 (by kernel_rfl) (hval 1 58 v1 rfl rfl) h1
  exact wordsLaw A0 A1 L0 c0 L1 c1 W hA0 hA1 hn0 hn1

theorem words_holds : Rows.FnWordsSaid :=
  OpenClaim.holds_of_wide 14 Try.f14 rfl rfl rfl rfl rfl rfl rfl ⟨rfl, rfl, rfl, rfl, rfl⟩ rfl rfl rfl rfl rfl (by kernel_rfl) Try.func14 (by kernel_rfl)
    (of_decide_eq_true (by kernel_rfl)) (by unfold Func.isWrapper; first | (rw [if_pos (by decide +kernel)]; kernel_rfl) | (rw [if_neg (by decide +kernel)]; exact ⟨rfl, rfl⟩))
    (fun os started H enc _ => words_holds_lifted os started H enc)
end Go.Proofs.Ytfblpibioegmkaa
