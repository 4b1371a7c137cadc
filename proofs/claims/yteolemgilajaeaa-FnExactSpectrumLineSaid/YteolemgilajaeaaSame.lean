/- sameFloat, and small tests on integers. -/
import Derived.Test.YteolemgilajaeaaRows
import Derived.Test.YteolemgilajaeaaRep
import Derived.Test.YteolemgilajaeaaFloat
import Derived.BigQuiet
import Derived.BigGuardPart
namespace Go.Proofs.Yteolemgilajaeaa
open Go.RowKit

theorem order_self (d : Ieee.Datum) (h : d.isNaN = false) : d.order d = some .eq := by
  cases d with
  | number s m e => simp [Ieee.Datum.order]
  | infinity s => simp [Ieee.Datum.order]
  | nan s t => simp [Ieee.Datum.isNaN] at h
theorem ford_self {k : FloatKind} {x : Nat} (h : isN k x = false) : ford k x x = some .eq := order_self _ h

theorem sameFloat_ok (a b : Nat) (h : cn .f64 b = cn .f64 a) (w : World) :
    Calls Try.prog 41 #[.float .f64 a, .float .f64 b] w fun e w' => e = .returned (.bool true) ∧ ∃ n, w' = w.drewN n := by
  cases hn : isN .f64 (cn .f64 a)
  · have h1 := ford_self hn
    clear hn
    go_enter Try.func41, Try.ntmps41
    go_wp2
    · go_ret
      exact ⟨ret_bool (by simp), _, rfl⟩
    · go_ret
      exact ⟨ret_bool (by simp), 0, rfl⟩
  · have h1 := ford_nanL (cn .f64 a) hn
    clear hn
    go_enter Try.func41, Try.ntmps41
    go_wp2
    go_ret
    exact ⟨ret_bool (by simp), 0, rfl⟩

theorem in_any (n lo hi : Int) (w : World) : Calls Try.prog 27 #[.int .i64 n, .int .i64 lo, .int .i64 hi] w fun e w' => e = .returned (.bool (decide (lo ≤ n) && decide (n ≤ hi))) ∧ w = w' := by
  by_cases h : lo ≤ n
  · go_enter Try.func27, Try.ntmps27
    go_wp2
    go_ret
    exact ⟨ret_bool (by simp <;> omega), rfl⟩
  · go_enter Try.func27, Try.ntmps27
    go_wp2
    go_ret
    exact ⟨ret_bool (by simp <;> omega), rfl⟩
theorem within_any (n lo hi : Int) (w : World) : Calls Try.prog 34 #[.int .i64 n, .int .i64 lo, .int .i64 hi] w fun e w' => e = .returned (.bool (decide (lo ≤ n) && decide (n ≤ hi))) ∧ w = w' := by
  by_cases h : lo ≤ n
  · go_enter Try.func34, Try.ntmps34
    go_wp2
    go_ret
    exact ⟨ret_bool (by simp <;> omega), rfl⟩
  · go_enter Try.func34, Try.ntmps34
    go_wp2
    go_ret
    exact ⟨ret_bool (by simp <;> omega), rfl⟩
end Go.Proofs.Yteolemgilajaeaa
