/- The tests that the law does on equal maps. Plain. -/
import Derived.Test.YtdodmfojbbmbdaaEq
namespace Go.Proofs.Ytdodmfojbbmbdaa
open Go.RowKit Ieee

theorem eq_gap {j n : Nat} (hj : j < 6) (h2 : 2 ≤ n) (h5 : n ≤ 5) : ∃ P M, ((∀ w, fres .add .f64 4607182418800017408 (eLv j n) w = P) ∧ fdr .add .f64 4607182418800017408 (eLv j n) = 0) ∧ ((∀ w, fres .mul .f64 4576918229304087675 P w = M) ∧ fdr .mul .f64 4576918229304087675 P = 0) ∧ cn .f64 M = M ∧
    (ford .f64 (gapF (c64 (bN (List.replicate n (eL1 j)) 40).1) (eLv j n)) M == some .gt) = false := by
  obtain ⟨H, lf, l0, l9, e1, e2⟩ := eq_near hj h2 h5
  have B := bN_end H
  obtain ⟨wf, wv⟩ := wide_val B.fin
  rw [← wv] at e1 e2
  obtain ⟨w0, w3, x0, x3⟩ := u64
  obtain ⟨c1, c2, c3⟩ := c01
  obtain ⟨o1, o2⟩ := one64
  have ha : ab (rv .f64 4607182418800017408 + rv .f64 (eLv j n)) ≤ 10 := by rw [o2]; apply ab_le <;> grind
  have A := op_add o1 lf (by have := big64; grind)
  have fa := Rat.mul_le_mul_of_nonneg_right ha w0
  have al := A.near.lo
  have au := A.near.up
  rw [o2] at al au fa
  obtain ⟨t, ht⟩ : ∃ t, t = rv .f64 (fop .add .f64 4607182418800017408 (eLv j n)) := ⟨_, rfl⟩
  rw [← ht] at al au
  have t0 : 0 ≤ t := by grind
  have t11 : t ≤ 11 := by grind
  have m1 := Rat.mul_le_mul_of_nonneg_right c2 t0
  have m2 := Rat.mul_le_mul_of_nonneg_right c3 t0
  have hm : ab (rv .f64 4576918229304087675 * t) ≤ 1 := by apply ab_le <;> grind
  have M := op_mul c1 A.near.fin (by rw [← ht]; have := big64; grind)
  rw [← ht] at M
  have fm := Rat.mul_le_mul_of_nonneg_right hm w0
  have ml := M.near.lo
  obtain ⟨g1, g2⟩ := gapF_ok (q := (1 + rv .f64 (eLv j n)) / 200) wf lf (by grind) (by grind) (by grind)
  refine ⟨_, _, ⟨A.res, A.dr⟩, ⟨M.res, M.dr⟩, M.near.fin.cn, not_gt g1 M.near.fin ?_⟩
  grind
end Go.Proofs.Ytdodmfojbbmbdaa
