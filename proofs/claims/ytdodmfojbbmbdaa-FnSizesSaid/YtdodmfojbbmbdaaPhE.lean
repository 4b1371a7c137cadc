/- The point of the unit circle at some turns: the reference's walk. -/
import Derived.Test.YtdodmfojbbmbdaaPhD
namespace Go.Proofs.Ytdodmfojbbmbdaa
open Go.RowKit Ieee

theorem neq_fin {x : Nat} {b : Bool} (h : finX (cn .f64 x) = b) : (ford .f64 (fop .sub .f64 (cn .f64 x) (cn .f64 x)) (cn .f64 0) != some .eq) = !b := by
  unfold finX at h
  unfold bne
  rw [h]
theorem narrow_any (x : Nat) (hf : nfit x = true) (w : World) : Calls Try.prog 39 #[.float .f64 x] w fun e w' => e = .returned (.float .f32 (nres x w)) ∧ w' = w.drewN (ndr x) := by
  have N1 := fun w => run_narrow (P := Try.prog) w 29 26 _ (by kernel_rfl) Try.underlying26 hf
  go_enter Try.func39, Try.ntmps39
  go_wp2
  go_ret
  exact ⟨rfl, rfl⟩
end Go.Proofs.Ytdodmfojbbmbdaa
