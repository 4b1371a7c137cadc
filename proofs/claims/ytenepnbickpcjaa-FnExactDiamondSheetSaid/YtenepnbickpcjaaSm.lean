/- Finite numbers: small ones, told without NaN. -/
import Derived.Test.YtenepnbickpcjaaDet
import Derived.Test.YtenepnbickpcjaaValid
import Derived.Test.YtenepnbickpcjaaSpan
namespace Go.Proofs.Ytenepnbickpcjaa
open Go.RowKit

theorem fin_numb {x : Nat} (h : finB x = true) : ∃ s m e, Ieee.single.read x = .number s m e := by
  unfold finB at h
  cases hr : Ieee.single.read x with
  | number s m e => exact ⟨s, m, e, rfl⟩
  | nan s t =>
    have hn : isN .f32 x = true := by unfold isN; rw [show FloatKind.f32.format.read x = .nan s t from hr]; rfl
    have : fop .sub .f32 x x = qn .f32 := by unfold fop; rw [floatBits_nanL _ _ hn]
    rw [this, ford_nanL _ (isN_qn _)] at h
    cases h
  | infinity s =>
    have : fop .sub .f32 x x = qn .f32 := by
      have hb : floatBits .sub .f32 x x = none := by
        have hr' : FloatKind.f32.format.read x = .infinity s := hr
        cases s <;> simp [floatBits, Ieee.Format.sub, hr', Ieee.Datum.opposite, Ieee.Datum.sum]
      unfold fop; rw [hb]
    rw [this, ford_nanL _ (isN_qn _)] at h
    cases h
theorem fin_small {x : Nat} (h : finB (cn .f32 x) = true) : Sm .f32 (cn .f32 x) 255 := by
  obtain ⟨s, m, e, hr⟩ := fin_numb h
  obtain ⟨hm, he1, he2⟩ := single_bounds hr
  refine ⟨s, m, e, hr, by rw [bias32]; omega, ?_⟩
  rw [bias32]
  exact Nat.le_trans (Nat.le_of_lt hm) (by rw [show (16777216 : Nat) = 2 ^ 24 from rfl]; exact Nat.pow_le_pow_right (by decide) (by omega))
theorem fin_cn' {x : Nat} (h : finB (cn .f32 x) = true) : cn .f32 x = x := by
  cases hn : isN .f32 x
  · exact cn_of_not hn
  · have := (fin_small h).num
    rw [isN_cn] at this
    rw [this] at hn
    cases hn
theorem fin_sub {x y : Nat} (hx : finB (cn .f32 x) = true) (hy : finB (cn .f32 y) = true) : Det .sub .f32 x y 256 :=
  det_sub (fin_cn' hx ▸ fin_small hx) (fin_cn' hy ▸ fin_small hy) (by omega)
theorem low_fin {l : List Nat} : ∀ {c : Nat}, finB c = true → l.all finB = true → finB (lowF c l) = true := by
  induction l with
  | nil => intro c h _; exact h
  | cons x l ih =>
    intro c h hl
    rw [List.all_cons, Bool.and_eq_true] at hl
    unfold lowF
    rw [List.foldl_cons]
    refine ih (c := if ford .f32 x c == some .lt then x else c) ?_ hl.2
    split
    · exact hl.1
    · exact h
theorem high_fin {l : List Nat} : ∀ {c : Nat}, finB c = true → l.all finB = true → finB (highF c l) = true := by
  induction l with
  | nil => intro c h _; exact h
  | cons x l ih =>
    intro c h hl
    rw [List.all_cons, Bool.and_eq_true] at hl
    unfold highF
    rw [List.foldl_cons]
    refine ih (c := if ford .f32 x c == some .gt then x else c) ?_ hl.2
    split
    · exact hl.1
    · exact h
end Go.Proofs.Ytenepnbickpcjaa
