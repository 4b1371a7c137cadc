/- The numbers of slopes: their variograms and roughness, by the kernel. -/
import Derived.Test.YtcdipgkdbannmaaRough
namespace Go.Proofs.Ytcdipgkdbannmaa
open Go.RowKit

/-- The slope that an input chooses. -/
def slp (j : Nat) : Nat := fop .quo .f32 (cn .f32 (floatOfInt .f32 ((j + 1 : Nat) : Int))) (cn .f32 1082130432)
/-- The heights of a slope. -/
def slpL (j : Nat) : List Nat := (List.range 8).map fun k : Nat => fop .mul .f32 (slp j) (cn .f32 (floatOfInt .f32 (k : Int)))
theorem slp_fin : ∀ j, j < 8 → finL (slpL j) = true := by decide +kernel
theorem slp_va : ∀ j, j < 8 → ∀ g, g < 6 → vaB (slpL j) 8 1 (g + 1) = true := by decide +kernel
theorem slp_va8 : ∀ j, j < 8 → vaB (slpL j) 8 1 8 = false := by decide +kernel
theorem slp_rg : ∀ j, j < 8 → rgB (slpL j) 8 1 4 = true := by decide +kernel
/-- The gap of two numbers of 64 bits. -/
def gap (a b : Nat) : Nat := if ford .f64 a b == some .lt then fop .sub .f64 b a else fop .sub .f64 a b
/-- Half the square of slope and lag. -/
def wantV (j g : Nat) : Nat := fop .mul .f64 (fop .mul .f64 (fop .mul .f64 (cn .f64 4602678819172646912) (c64 (slp j))) (c64 (slp j))) (cn .f64 (floatOfInt .f64 (((g + 1) * (g + 1) : Nat) : Int)))
theorem slp_gap : ∀ j, j < 8 → ∀ g, g < 6 → (ford .f64 (gap (c64 (vaX (slpL j) 8 1 (g + 1))) (wantV j g)) (fop .mul .f64 (cn .f64 4562254508917369340) (fop .add .f64 (cn .f64 4607182418800017408) (wantV j g))) == some .lt) = true := by decide +kernel
theorem slp_rough : ∀ j, j < 8 → (ford .f64 (gap (c64 (rgX (slpL j) 8 1 4)) (cn .f64 4607182418800017408)) (cn .f64 4576918229304087675) == some .lt) = true := by decide +kernel
end Go.Proofs.Ytcdipgkdbannmaa
