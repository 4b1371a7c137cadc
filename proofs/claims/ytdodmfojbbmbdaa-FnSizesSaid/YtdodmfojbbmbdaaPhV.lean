/- The sine at some turns: the reference's walk. -/
import Derived.Test.YtdodmfojbbmbdaaPhW
namespace Go.Proofs.Ytdodmfojbbmbdaa
open Go.RowKit Ieee

theorem sine_checks {s : Bool} {r : Nat} (hr : r < 1075 * 4503599627370496) : (∀ w, fres .sub .f64 (double.word s r) (double.word s r) w = fop .sub .f64 (double.word s r) (double.word s r)) ∧ fdr .sub .f64 (double.word s r) (double.word s r) = 0 ∧
    (ford .f64 (cn .f64 (fop .sub .f64 (double.word s r) (double.word s r))) (cn .f64 0) != some .eq) = false ∧ geC (double.word s r) 4841369599423283200 = false ∧ (ford .f64 (cn .f64 (double.word s r)) (cn .f64 14064741636278059008) == some .lt || ford .f64 (cn .f64 (double.word s r)) (cn .f64 14064741636278059008) == some .eq) = false := by
  have hf := fin_word s (r := r) (by omega)
  have S := sub_key 1 hf hf (by omega) (by rw [Int.sub_self]; exact Nat.zero_le _)
  have hn := num_word s (r := r) (by omega)
  have hk := key_word s (r := r) (by omega)
  have hlt : rval double r < rval double ((1074 + 1) * 4503599627370496) := rval_lt (f := double) hr
  have c1 : (4841369599423283200 : Nat) = double.word false ((1074 + 1) * 4503599627370496) := by decide +kernel
  have c2 : (14064741636278059008 : Nat) = double.word true ((1074 + 1) * 4503599627370496) := by decide +kernel
  have n1 := num_word false (r := (1074 + 1) * 4503599627370496) (by omega)
  have n2 := num_word true (r := (1074 + 1) * 4503599627370496) (by omega)
  have k1 := key_word false (r := (1074 + 1) * 4503599627370496) (by omega)
  have k2 := key_word true (r := (1074 + 1) * 4503599627370496) (by omega)
  refine ⟨S.res, S.dr, ?_, ?_, ?_⟩
  · obtain ⟨sg, r', a, b, _, _, d⟩ := S.wd
    rw [a, d (Int.sub_self _), ford_cn]
    cases sg <;> decide +kernel
  · rw [c1, geC_key hn n1, hk, k1]
    simp only [Bool.false_eq_true, if_false]
    generalize rval double r = u at *
    generalize rval double ((1074 + 1) * 4503599627370496) = v at *
    apply decide_eq_false
    cases s <;> simp <;> omega
  · rw [c2, ford_cn, ford_key hn n2, hk, k2]
    simp only [if_true]
    generalize rval double r = u at *
    generalize rval double ((1074 + 1) * 4503599627370496) = v at *
    rw [cmp_gt (by cases s <;> simp <;> omega)]
    rfl
end Go.Proofs.Ytdodmfojbbmbdaa
