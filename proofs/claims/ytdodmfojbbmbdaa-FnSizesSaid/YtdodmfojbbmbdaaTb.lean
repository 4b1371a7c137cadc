/- The numbers that drawn maps have: by the kernel. -/
import Derived.Test.YtdodmfojbbmbdaaLo
import Derived.Test.YtdodmfojbbmbdaaLogW
namespace Go.Proofs.Ytdodmfojbbmbdaa
open Go.RowKit Ieee

/-- Eighths. -/
def q8 (i : Int) : Nat := fop .quo .f32 (cn .f32 (floatOfInt .f32 i)) (cn .f32 1090519040)
/-- The logarithm of a turn's length. -/
def tL (i j : Nat) : Nat := logF (lgV (q8 ((i : Int) + 1)) (q8 ((j : Int) - 4)))
def lgFB (L : Nat) : Bool := isFb .f32 L && decide (-21 / 10 ≤ rv .f32 L) && decide (rv .f32 L ≤ 0) && decide (gE (8 * rv .f32 L) ≤ 19 / 100)
theorem t_lg : ∀ i, i < 4 → ∀ j, j < 9 → lgB (q8 ((i : Nat) + 1 : Int)) (q8 ((j : Nat) - 4 : Int)) = true := by decide +kernel
theorem t_lf : ∀ i, i < 4 → ∀ j, j < 9 → lgFB (tL i j) = true := by decide +kernel
/-- What the tests on a turn come to. -/
def turnB (a b : Nat) : Bool := lgB a b && (ford .f32 (cn .f32 (lgV a b)) (cn .f32 1065353216) == some .lt) && (ford .f32 (cn .f32 (lgV a b)) (cn .f32 0) == some .gt) && finB (cn .f32 (lgV a b)) && !isN .f32 (lgV a b)
theorem t_turn : ∀ i, i < 4 → ∀ j, j < 9 → turnB (q8 ((i : Nat) + 1 : Int)) (q8 ((j : Nat) - 4 : Int)) = true := by decide +kernel
/-- 64ths. -/
def q64 (i : Int) : Nat := fop .quo .f32 (cn .f32 (floatOfInt .f32 i)) (cn .f32 1115684864)
def mixV (a b s : Nat) : Nat := fop .add .f32 a (fop .mul .f32 s (fop .sub .f32 b a))
def mixB (a b s : Nat) : Bool := (floatBits .sub .f32 b a == some (fop .sub .f32 b a)) && (floatBits .mul .f32 s (fop .sub .f32 b a) == some (fop .mul .f32 s (fop .sub .f32 b a))) && (floatBits .add .f32 a (fop .mul .f32 s (fop .sub .f32 b a)) == some (mixV a b s))
theorem t_mix : ∀ a, a < 9 → ∀ b, b < 9 → ∀ s, s < 9 → (mixB (q8 ((a : Nat) - 4 : Int)) (q8 ((b : Nat) - 4 : Int)) (q8 ((s : Nat) : Int)) && (mixV (q8 ((a : Nat) - 4 : Int)) (q8 ((b : Nat) - 4 : Int)) (q8 ((s : Nat) : Int)) == q64 (8 * ((a : Nat) - 4 : Int) + (s : Nat) * ((b : Nat) - (a : Nat) : Int)))) = true := by decide +kernel
theorem t_turn64 : ∀ i, i < 25 → ∀ j, j < 65 → turnB (q64 ((i : Nat) + 8 : Int)) (q64 ((j : Nat) - 32 : Int)) = true := by decide +kernel
end Go.Proofs.Ytdodmfojbbmbdaa
