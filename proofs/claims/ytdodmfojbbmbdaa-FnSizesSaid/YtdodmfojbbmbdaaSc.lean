/- The logs of equal maps; differences that are nothing. Plain. -/
import Derived.Test.YtdodmfojbbmbdaaSb
namespace Go.Proofs.Ytdodmfojbbmbdaa
open Go.RowKit Ieee

def lnF (n : Nat) : Nat := logF (cn .f32 (floatOfInt .f32 (n : Int)))
def lnB (n : Nat) : Bool := (ford .f32 (cn .f32 (floatOfInt .f32 (n : Int))) (cn .f32 0) == some .gt) && finB (cn .f32 (floatOfInt .f32 (n : Int))) && isFb .f32 (lnF n)
def ltjB (j : Nat) : Bool := (ford .f32 (cn .f32 (q8 ((j : Int) + 1))) (cn .f32 0) == some .gt) && finB (cn .f32 (q8 ((j : Int) + 1))) && isFb .f32 (logF (q8 ((j : Int) + 1))) && (cn .f32 (q8 ((j : Int) + 1)) == q8 ((j : Int) + 1))
theorem l_n : ∀ n, n < 4 → lnB (n + 2) = true := by decide +kernel
theorem l_t : ∀ j, j < 6 → ltjB j = true := by decide +kernel
theorem l_q : ∀ j : Nat, j < 6 → ∀ n, n < 4 → floatBits .quo .f64 (Op.negFloat .f64 (c64 (lnF (n + 2)))) (c64 (logF (q8 ((j : Int) + 1)))) = some (eLv j (n + 2)) := by decide +kernel
theorem ln_ok {n : Nat} (h2 : 2 ≤ n) (h5 : n ≤ 5) : ford .f32 (cn .f32 (floatOfInt .f32 (n : Int))) (cn .f32 0) = some .gt ∧ finB (cn .f32 (floatOfInt .f32 (n : Int))) = true ∧ isF .f32 (lnF n) := by
  have h := l_n (n - 2) (by omega)
  rw [show n - 2 + 2 = n by omega] at h
  unfold lnB at h
  simp only [Bool.and_eq_true, beq_iff_eq] at h
  exact ⟨h.1.1, h.1.2, isF_of h.2⟩
theorem lt_ok {j : Nat} (hj : j < 6) : ford .f32 (cn .f32 (q8 ((j : Int) + 1))) (cn .f32 0) = some .gt ∧ finB (cn .f32 (q8 ((j : Int) + 1))) = true ∧ isF .f32 (logF (q8 ((j : Int) + 1))) ∧ cn .f32 (q8 ((j : Int) + 1)) = q8 ((j : Int) + 1) := by
  have h := l_t j hj
  unfold ltjB at h
  simp only [Bool.and_eq_true, beq_iff_eq] at h
  exact ⟨h.1.1.1, h.1.1.2, isF_of h.1.2, h.2⟩
theorem lq_ok {j n : Nat} (hj : j < 6) (h2 : 2 ≤ n) (h5 : n ≤ 5) : floatBits .quo .f64 (Op.negFloat .f64 (c64 (lnF n))) (c64 (logF (q8 ((j : Int) + 1)))) = some (eLv j n) := by
  have h := l_q j hj (n - 2) (by omega)
  rw [show n - 2 + 2 = n by omega] at h
  exact h
/-! A product of complex numbers in 32 bits, by a real one. -/
def isZ (x : Nat) : Bool := x == 0 || x == 2147483648
def isZ64 (x : Nat) : Bool := x == 0 || x == 9223372036854775808
def pM (x s : Nat) : Nat := fop .mul .f64 (c64 x) (c64 s)
def pZ (x : Nat) : Nat := fop .mul .f64 (c64 x) (c64 0)
theorem c_w : ∀ x, x < 17 → (floatToFloatBits .f32 (q8 ((x : Nat) - 8 : Int)) .f64 == some (c64 (q8 ((x : Nat) - 8 : Int)))) = true := by decide +kernel
theorem c_w0 : floatToFloatBits .f32 0 .f64 = some (c64 0) := by decide +kernel
theorem c_a : ∀ x, x < 17 → ∀ s, s < 9 → ((floatBits .mul .f64 (c64 (q8 ((x : Nat) - 8 : Int))) (c64 (q8 ((s : Nat) : Int))) == some (pM (q8 ((x : Nat) - 8 : Int)) (q8 ((s : Nat) : Int)))) &&
    ((pM (q8 ((x : Nat) - 8 : Int)) (q8 ((s : Nat) : Int)) == c64 (q64 (((x : Nat) - 8 : Int) * (s : Nat)))) || (isZ64 (pM (q8 ((x : Nat) - 8 : Int)) (q8 ((s : Nat) : Int))) && decide (((x : Nat) - 8 : Int) * (s : Nat) = 0)))) = true := by decide +kernel
theorem c_b : ∀ x, x < 17 → ((floatBits .mul .f64 (c64 (q8 ((x : Nat) - 8 : Int))) (c64 0) == some (pZ (q8 ((x : Nat) - 8 : Int)))) && isZ64 (pZ (q8 ((x : Nat) - 8 : Int)))) = true := by decide +kernel
/-- The last step: p less z, z and p, narrowed. -/
def cB (p z : Nat) (k : Int) : Bool :=
  (floatBits .sub .f64 p z == some (fop .sub .f64 p z)) && (floatBits .add .f64 z p == some (fop .add .f64 z p)) &&
  (floatToFloatBits .f64 (fop .sub .f64 p z) .f32 == some (n32 (fop .sub .f64 p z))) && (floatToFloatBits .f64 (fop .add .f64 z p) .f32 == some (n32 (fop .add .f64 z p))) &&
  ((n32 (fop .sub .f64 p z) == q64 k) || (isZ (n32 (fop .sub .f64 p z)) && decide (k = 0))) && ((n32 (fop .add .f64 z p) == q64 k) || (isZ (n32 (fop .add .f64 z p)) && decide (k = 0)))
theorem c_c : ∀ k, k < 129 → (cB (c64 (q64 ((k : Nat) - 64 : Int))) 0 ((k : Nat) - 64 : Int) && cB (c64 (q64 ((k : Nat) - 64 : Int))) 9223372036854775808 ((k : Nat) - 64 : Int)) = true := by decide +kernel
theorem c_c0 : ∀ p ∈ [0, 9223372036854775808], ∀ z ∈ [0, 9223372036854775808], cB p z 0 = true := by decide +kernel
theorem c_e : ∀ a, a < 9 → ∀ b, b < 9 → floatBits .sub .f32 (q8 ((b : Nat) - 4 : Int)) (q8 ((a : Nat) - 4 : Int)) = some (q8 ((b : Nat) - (a : Nat) : Int)) := by decide +kernel
/-- a + r, then the mixed number less that: nothing. -/
def dB (a b s r : Nat) : Bool := (floatBits .add .f32 a r == some (fop .add .f32 a r)) && (floatBits .sub .f32 (mixV a b s) (fop .add .f32 a r) == some (fop .sub .f32 (mixV a b s) (fop .add .f32 a r))) && isZ (fop .sub .f32 (mixV a b s) (fop .add .f32 a r))
theorem c_d : ∀ a, a < 9 → ∀ b, b < 9 → ∀ s, s < 9 → dB (q8 ((a : Nat) - 4 : Int)) (q8 ((b : Nat) - 4 : Int)) (q8 ((s : Nat) : Int)) (q64 (((b : Nat) - (a : Nat) : Int) * (s : Nat))) = true := by decide +kernel
theorem c_d0 : ∀ a, a < 9 → ∀ b, b < 9 → ∀ s, s < 9 → (decide (((b : Nat) - (a : Nat) : Int) * (s : Nat) ≠ 0) || (dB (q8 ((a : Nat) - 4 : Int)) (q8 ((b : Nat) - 4 : Int)) (q8 ((s : Nat) : Int)) 0 && dB (q8 ((a : Nat) - 4 : Int)) (q8 ((b : Nat) - 4 : Int)) (q8 ((s : Nat) : Int)) 2147483648)) = true := by decide +kernel
def sB (a b : Nat) : Bool := (floatBits .sub .f32 (mixV a b 0) a == some (fop .sub .f32 (mixV a b 0) a)) && isZ (fop .sub .f32 (mixV a b 0) a)
theorem c_s : ∀ a, a < 9 → ∀ b, b < 9 → sB (q8 (2 * ((a : Nat) - 4 : Int))) (q8 (2 * ((b : Nat) - 4 : Int))) = true := by decide +kernel
end Go.Proofs.Ytdodmfojbbmbdaa
