/- FnSpectra: the law returns true for every input. No condition. -/
import Derived.Test.YtamgekijihpgkaaFx
import Derived.Test.YtamgekijihpgkaaOpenB
import Derived.Test.YtamgekijihpgkaaFrame
namespace Go.Proofs.Ytamgekijihpgkaa
open Go.ChangeShapes Go.WideShapes Go.ChangeAt Go.RowKit
open Go.ChangeMaps (open_string shut_string)

theorem Tspectra_holds.own : ownKnob Try.prog.godebug = none := by kernel_rfl
theorem Tspectra_holds.laidOut : laidOutB Try.prog = true := by kernel_rfl

set_option maxRecDepth 100000 in
theorem spectra_holds_lifted (os : Os) (started : os.Started) (H : Type) (enc : TypeId × Value → H) :
    ReturnsInHanded {} Try.checked os 3 .any (Rows.fnSpectraSpec.pre6 enc Try.prog Try.f3 Rows.fnSpectraRow.domain false) (Rows.fnSpectraSpec.post enc Try.prog Try.f3 false true false false) := by
  refine law_lifted (C := Try.checked) Tspectra_holds.own started (by kernel_rfl) Try.func3 Tspectra_holds.laidOut (by rw [show Try.f3.params.toList = [22, 22] from rfl]; intro t ht; simp only [List.mem_cons, List.not_mem_nil, or_false] at ht; rcases ht with rfl | rfl <;> exact ⟨by kernel_rfl, of_decide_eq_true (by kernel_rfl)⟩) rfl rfl Try.underlying4
    (fun ds h => by match ds, h with | [_, _], _ => exact ⟨rfl, rfl, rfl⟩)
    (ChangeSpec.witness6 (enc := enc) (C := Try.checked) false ⟨#[], #[.slice none 0 0, .slice none 0 0], []⟩ 8 (by kernel_rfl) (by kernel_rfl) (by kernel_rfl) (by kernel_rfl)) ?_
  intro W base args ds p hval hA _ _
  obtain ⟨v0, v1, d0, d1, p0, p1, rfl, rfl, rfl, h0, h1⟩ := trodAll_two hA
  obtain ⟨A0, L0, c0, rfl, hA0, hn0⟩ := open_bytes Try.underlying22 Try.underlying5 (by kernel_rfl) (hval 0 22 v0 rfl rfl) h0
  obtain ⟨A1, L1, c1, rfl, hA1, hn1⟩ := open_bytes Try.underlying22 Try.underlying5 (by kernel_rfl) (hval 1 22 v1 rfl rfl) h1
  exact spectraLaw A0 A1 L0 c0 L1 c1 W hA0 hA1 hn0 hn1

theorem spectra_holds : Rows.FnSpectraSaid :=
  OpenClaim.holds_of_wide 3 Try.f3 rfl rfl rfl rfl rfl rfl rfl ⟨rfl, rfl, rfl, rfl, rfl⟩ rfl rfl rfl rfl rfl (by kernel_rfl) Try.func3 (by kernel_rfl)
    (of_decide_eq_true (by kernel_rfl)) (by unfold Func.isWrapper; first | (rw [if_pos (by decide +kernel)]; kernel_rfl) | (rw [if_neg (by decide +kernel)]; exact ⟨rfl, rfl⟩))
    (fun os started H enc _ => spectra_holds_lifted os started H enc)
end Go.Proofs.Ytamgekijihpgkaa
