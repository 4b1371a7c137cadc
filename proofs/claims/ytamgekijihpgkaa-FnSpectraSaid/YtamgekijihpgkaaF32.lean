/- Slices of float32: copied, marked, held. -/
import Derived.Test.YtamgekijihpgkaaEqF
namespace Go.Proofs.Ytamgekijihpgkaa
open Go.RowKit


/-- What the marks k, k+1, .. are. -/
def fm (k : Nat) : Nat := floatOfInt .f32 (k : Int)
def fmarks (k n : Nat) : List Nat := (List.range n).map fun i => fm (k + i)
theorem fmarks_len (k n : Nat) : (fmarks k n).length = n := by simp [fmarks]
theorem fmarks_succ (k n : Nat) : fmarks k (n + 1) = fmarks k n ++ [fm (k + n)] := by simp [fmarks, List.range_succ]
theorem fmarks_at {k n i : Nat} (h : i < n) : (fmarks k n)[i]'(by rw [fmarks_len]; exact h) = fm (k + i) := by simp [fmarks]
theorem fm_num (k : Nat) : isN .f32 (fm k) = false := by
  unfold fm floatOfInt FloatKind.nearest FloatKind.encode
  exact isN_write .f32 _ rfl
theorem fm_self (k : Nat) : ford .f32 (cn .f32 (fm k)) (cn .f32 (fm k)) = some .eq := by rw [ford_cn]; exact ford_self (fm_num k)

end Go.Proofs.Ytamgekijihpgkaa
