/- The library's small functions on floats: Abs, NaN, frombits. -/
import Derived.Test.YtdodmfojbbmbdaaPhas2
import Derived.Test.YtdodmfojbbmbdaaFin
import Derived.Test.YtdodmfojbbmbdaaConv
import Derived.Laws.Externs
namespace Go.Proofs.Ytdodmfojbbmbdaa
open Go.RowKit Ieee

theorem ext_f64bits (b : Nat) (w : World) : (callFunc 49 #[.float .f64 b]).run Try.prog w = .ok (.value (.int .u64 b)) w := by
  rw [run_callFunc_extern (fn := Try.f49) (e := Extern.MathFloatBits.float64bits) Try.func49 (by kernel_rfl) (by kernel_rfl) (by kernel_rfl) (by kernel_rfl)]
  rfl
theorem ext_f64from (b : Nat) (w : World) : (callFunc 45 #[.int .u64 (b : Int)]).run Try.prog w = .ok (.value (.float .f64 b)) w := by
  rw [run_callFunc_extern (fn := Try.f45) (e := Extern.MathFloatBits.float64frombits) Try.func45 (by kernel_rfl) (by kernel_rfl) (by kernel_rfl) (by kernel_rfl)]
  rfl
theorem and_low (x : Nat) : x &&& 9223372036854775807 = x % 9223372036854775808 := Nat.and_two_pow_sub_one_eq_mod x 63
theorem andNot_63 (b : Nat) (hb : b < 18446744073709551616) : bits .andNot .u64 (b : Int) 9223372036854775808 = ((b % 9223372036854775808 : Nat) : Int) := by
  have h := u64_andNot_nat b 9223372036854775808 hb (by decide)
  rw [show ((9223372036854775808 : Nat) : Int) = 9223372036854775808 from rfl] at h
  rw [h, show 18446744073709551615 - 9223372036854775808 = 9223372036854775807 from rfl, and_low]
theorem word_mod (s : Bool) {r : Nat} (hr : r < 2047 * 4503599627370496) : double.word s r < 18446744073709551616 ∧ double.word s r % 9223372036854775808 = double.word false r := by
  unfold Format.word
  rw [sw64]
  cases s <;> simp <;> omega
set_option maxRecDepth 100000 in
theorem abs_any (s : Bool) (r : Nat) (hr : r < 2047 * 4503599627370496) (w : World) : Calls Try.prog 44 #[.float .f64 (double.word s r)] w fun e w' => e = .returned (.float .f64 (double.word false r)) ∧ w' = w := by
  have h1 := fun w => ext_f64bits (double.word s r) w
  obtain ⟨a, b⟩ := word_mod s hr
  have h2 := andNot_63 (double.word s r) a
  rw [b] at h2
  have h3 := fun w => ext_f64from (double.word false r) w
  generalize double.word s r = x at *
  generalize double.word false r = y at *
  go_enter Try.func44, Try.ntmps44
  go_wp2
  go_ret
  exact ⟨rfl, rfl⟩
theorem nan_any (w : World) : Calls Try.prog 34 #[] w fun e w' => e = .returned (.float .f64 9221120237041090561) ∧ w' = w := by
  have h3 := fun w => ext_f64from 9221120237041090561 w
  rw [show ((9221120237041090561 : Nat) : Int) = 9221120237041090561 from rfl] at h3
  go_enter Try.func34, Try.ntmps34
  go_wp2
  go_ret
  exact ⟨rfl, rfl⟩
end Go.Proofs.Ytdodmfojbbmbdaa
