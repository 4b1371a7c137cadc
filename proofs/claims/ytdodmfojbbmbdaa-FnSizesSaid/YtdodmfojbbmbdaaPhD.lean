/- The point of the unit circle at some turns: both sides' walks. -/
import Derived.Test.YtdodmfojbbmbdaaPhC
import Derived.Deep.LoopGhost
import Derived.Deep.RegionWith
import Derived.BigRegion
import Derived.Laws.ComplexArith
namespace Go.Proofs.Ytdodmfojbbmbdaa
open Go.RowKit Ieee

/-- A complex number of two words, NaNs made one; drawing is all that is done. -/
def CplR (w : World) (p : Nat × Nat) (e : Ending) (w' : World) : Prop :=
  ∃ a b n, e = .returned (.complex .f32 a b) ∧ cn .f32 a = p.1 ∧ cn .f32 b = p.2 ∧ w' = w.drewN n
theorem nan_fit : nfit 9221120237041090561 = true := by decide +kernel
theorem nan_n32 : n32 (cn .f64 9221120237041090561) = qn .f32 := by decide +kernel
end Go.Proofs.Ytdodmfojbbmbdaa
