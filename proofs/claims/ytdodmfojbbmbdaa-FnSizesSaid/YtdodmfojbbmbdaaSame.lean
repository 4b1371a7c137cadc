/- sameFloat, and small tests on integers. -/
import Derived.Test.YtdodmfojbbmbdaaRows
import Derived.Test.YtdodmfojbbmbdaaRep
import Derived.Test.YtdodmfojbbmbdaaFloat
import Derived.BigQuiet
import Derived.BigGuardPart
namespace Go.Proofs.Ytdodmfojbbmbdaa
open Go.RowKit

theorem order_self (d : Ieee.Datum) (h : d.isNaN = false) : d.order d = some .eq := by
  cases d with
  | number s m e => simp [Ieee.Datum.order]
  | infinity s => simp [Ieee.Datum.order]
  | nan s t => simp [Ieee.Datum.isNaN] at h
theorem ford_self {k : FloatKind} {x : Nat} (h : isN k x = false) : ford k x x = some .eq := order_self _ h

end Go.Proofs.Ytdodmfojbbmbdaa
