/- sameFloat, and small tests on integers. -/
import Derived.Test.YtcdipgkdbannmaaRows
import Derived.Test.YtcdipgkdbannmaaRep
import Derived.Test.YtcdipgkdbannmaaFloat
import Derived.BigQuiet
import Derived.BigGuardPart
namespace Go.Proofs.Ytcdipgkdbannmaa
open Go.RowKit

theorem order_self (d : Ieee.Datum) (h : d.isNaN = false) : d.order d = some .eq := by
  cases d with
  | number s m e => simp [Ieee.Datum.order]
  | infinity s => simp [Ieee.Datum.order]
  | nan s t => simp [Ieee.Datum.isNaN] at h
theorem ford_self {k : FloatKind} {x : Nat} (h : isN k x = false) : ford k x x = some .eq := order_self _ h

theorem sameFloat_ok (a b : Nat) (h : cn .f64 b = cn .f64 a) (w : World) :
    Calls Try.prog 13 #[.float .f64 a, .float .f64 b] w fun e w' => e = .returned (.bool true) ∧ ∃ n, w' = w.drewN n := by
  cases hn : isN .f64 (cn .f64 a)
  · have h1 := ford_self hn
    clear hn
    go_enter Try.func13, Try.ntmps13
    go_wp2
    · go_ret
      exact ⟨ret_bool (by simp), _, rfl⟩
    · go_ret
      exact ⟨ret_bool (by simp), 0, rfl⟩
  · have h1 := ford_nanL (cn .f64 a) hn
    clear hn
    go_enter Try.func13, Try.ntmps13
    go_wp2
    go_ret
    exact ⟨ret_bool (by simp), 0, rfl⟩

theorem in_any (n lo hi : Int) (w : World) : Calls Try.prog 33 #[.int .i64 n, .int .i64 lo, .int .i64 hi] w fun e w' => e = .returned (.bool (decide (lo ≤ n) && decide (n ≤ hi))) ∧ w = w' := by
  by_cases h : lo ≤ n
  · go_enter Try.func33, Try.ntmps33
    go_wp2
    go_ret
    exact ⟨ret_bool (by simp <;> omega), rfl⟩
  · go_enter Try.func33, Try.ntmps33
    go_wp2
    go_ret
    exact ⟨ret_bool (by simp <;> omega), rfl⟩
theorem within_any (n lo hi : Int) (w : World) : Calls Try.prog 57 #[.int .i64 n, .int .i64 lo, .int .i64 hi] w fun e w' => e = .returned (.bool (decide (lo ≤ n) && decide (n ≤ hi))) ∧ w = w' := by
  by_cases h : lo ≤ n
  · go_enter Try.func57, Try.ntmps57
    go_wp2
    go_ret
    exact ⟨ret_bool (by simp <;> omega), rfl⟩
  · go_enter Try.func57, Try.ntmps57
    go_wp2
    go_ret
    exact ⟨ret_bool (by simp <;> omega), rfl⟩
end Go.Proofs.Ytcdipgkdbannmaa
