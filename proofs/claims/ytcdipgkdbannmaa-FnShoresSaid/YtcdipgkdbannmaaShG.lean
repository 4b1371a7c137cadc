/- b10Gap. -/
import Derived.Test.YtcdipgkdbannmaaShN
import Derived.Test.YtcdipgkdbannmaaShA
namespace Go.Proofs.Ytcdipgkdbannmaa
open Go.RowKit

theorem gap_lt {a b : Nat} (h : (ford .f64 (cn .f64 a) (cn .f64 b) == some .lt) = true) : gap (cn .f64 a) (cn .f64 b) = fop .sub .f64 b a := by
  unfold gap; rw [h, if_pos rfl, fop_cn]
theorem gap_ge {a b : Nat} (h : (ford .f64 (cn .f64 a) (cn .f64 b) == some .lt) = false) : gap (cn .f64 a) (cn .f64 b) = fop .sub .f64 a b := by
  unfold gap; rw [h, if_neg (by decide), fop_cn]
theorem b10Gap_any (a b : Nat) (w : World) : Calls Try.prog 30 #[.float .f64 a, .float .f64 b] w fun e w' => ∃ r, e = .returned (.float .f64 r) ∧ cn .f64 r = gap (cn .f64 a) (cn .f64 b) ∧ ∃ n, w' = w.drewN n := by
  cases h : (ford .f64 (cn .f64 a) (cn .f64 b) == some .lt)
  · have HG := Lib.hid (gap_ge h)
    go_enter Try.func30, Try.ntmps30
    go_wp2
    go_ret
    exact ⟨_, rfl, by rw [cn_fres, HG.out, fop_cn], _, rfl⟩
  · have HG := Lib.hid (gap_lt h)
    go_enter Try.func30, Try.ntmps30
    go_wp2
    go_ret
    exact ⟨_, rfl, by rw [cn_fres, HG.out, fop_cn], _, rfl⟩
end Go.Proofs.Ytcdipgkdbannmaa
