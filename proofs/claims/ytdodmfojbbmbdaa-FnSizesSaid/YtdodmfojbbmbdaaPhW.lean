/- The sine at some turns: both sides' walks. -/
import Derived.Test.YtdodmfojbbmbdaaPhB
import Derived.Deep.LoopGhost
namespace Go.Proofs.Ytdodmfojbbmbdaa
open Go.RowKit Ieee

/-- Constants of the series in the program: by floats. -/
def kN (n : Nat) : Nat := floatOfInt .f64 (n : Int)
theorem ks_tab : ∀ n : Nat, n ≤ 8 → fop .mul .f64 4611686018427387904 (kN n) = kN (2 * n) ∧ floatBits .mul .f64 4611686018427387904 (kN n) = some (kN (2 * n)) ∧ floatBits .add .f64 (kN (2 * n)) 4607182418800017408 = some (kN (2 * n + 1)) ∧ floatBits .mul .f64 (kN (2 * n)) (kN (2 * n + 1)) = some (sD n) ∧ (1 ≤ n → floatBits .sub .f64 (kN n) 4607182418800017408 = some (kN (n - 1))) ∧ geC (kN n) 4607182418800017408 = decide (1 ≤ n) := by decide +kernel
theorem fb_some {op : BinOp} {k : FloatKind} {x y r : Nat} (h : floatBits op k x y = some r) : (∀ w, fres op k x y w = r) ∧ fdr op k x y = 0 := by
  refine ⟨fun w => ?_, ?_⟩
  · unfold fres; rw [h]
  · unfold fdr; rw [h]
end Go.Proofs.Ytdodmfojbbmbdaa
