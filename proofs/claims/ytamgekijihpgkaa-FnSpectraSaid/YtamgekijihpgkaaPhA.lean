/- The library's small functions on floats: Abs, NaN, frombits. -/
import Derived.Test.YtamgekijihpgkaaPhas2
import Derived.Test.YtamgekijihpgkaaFin
import Derived.Test.YtamgekijihpgkaaMa
import Derived.Laws.Externs
namespace Go.Proofs.Ytamgekijihpgkaa
open Go.RowKit Ieee

theorem ext_f64bits (b : Nat) (w : World) : (callFunc 56 #[.float .f64 b]).run Try.prog w = .ok (.value (.int .u64 b)) w := by
  rw [run_callFunc_extern (fn := Try.f56) (e := Extern.MathFloatBits.float64bits) Try.func56 (by kernel_rfl) (by kernel_rfl) (by kernel_rfl) (by kernel_rfl)]
  rfl
theorem ext_f64from (b : Nat) (w : World) : (callFunc 55 #[.int .u64 (b : Int)]).run Try.prog w = .ok (.value (.float .f64 b)) w := by
  rw [run_callFunc_extern (fn := Try.f55) (e := Extern.MathFloatBits.float64frombits) Try.func55 (by kernel_rfl) (by kernel_rfl) (by kernel_rfl) (by kernel_rfl)]
  rfl
theorem ext_f32from (b : Nat) (w : World) : (callFunc 59 #[.int .u32 (b : Int)]).run Try.prog w = .ok (.value (.float .f32 b)) w := by
  rw [run_callFunc_extern (fn := Try.f59) (e := Extern.MathFloatBits.float32frombits) Try.func59 (by kernel_rfl) (by kernel_rfl) (by kernel_rfl) (by kernel_rfl)]
  rfl
theorem and_low (x : Nat) : x &&& 9223372036854775807 = x % 9223372036854775808 := Nat.and_two_pow_sub_one_eq_mod x 63
theorem andNot_63 (b : Nat) (hb : b < 18446744073709551616) : bits .andNot .u64 (b : Int) 9223372036854775808 = ((b % 9223372036854775808 : Nat) : Int) := by
  have h := u64_andNot_nat b 9223372036854775808 hb (by decide)
  rw [show ((9223372036854775808 : Nat) : Int) = 9223372036854775808 from rfl] at h
  rw [h, show 18446744073709551615 - 9223372036854775808 = 9223372036854775807 from rfl, and_low]
theorem word_mod (s : Bool) {r : Nat} (hr : r < 2047 * 4503599627370496) : double.word s r < 18446744073709551616 ∧ double.word s r % 9223372036854775808 = double.word false r := by
  unfold Format.word
  rw [sw64]
  cases s <;> simp <;> omega
set_option maxRecDepth 100000 in
theorem abs_any (s : Bool) (r : Nat) (hr : r < 2047 * 4503599627370496) (w : World) : Calls Try.prog 42 #[.float .f64 (double.word s r)] w fun e w' => e = .returned (.float .f64 (double.word false r)) ∧ w' = w := by
  have h1 := fun w => ext_f64bits (double.word s r) w
  obtain ⟨a, b⟩ := word_mod s hr
  have h2 := andNot_63 (double.word s r) a
  rw [b] at h2
  have h3 := fun w => ext_f64from (double.word false r) w
  generalize double.word s r = x at *
  generalize double.word false r = y at *
  go_enter Try.func42, Try.ntmps42
  go_wp2
  go_ret
  exact ⟨rfl, rfl⟩
theorem nan_any (w : World) : Calls Try.prog 38 #[] w fun e w' => e = .returned (.float .f64 9221120237041090561) ∧ w' = w := by
  have h3 := fun w => ext_f64from 9221120237041090561 w
  rw [show ((9221120237041090561 : Nat) : Int) = 9221120237041090561 from rfl] at h3
  go_enter Try.func38, Try.ntmps38
  go_wp2
  go_ret
  exact ⟨rfl, rfl⟩
theorem l01From_any (w : World) : Calls Try.prog 50 #[.int .i64 2143289344] w fun e w' => e = .returned (.float .f32 2143289344) ∧ w' = w := by
  have h3 := fun w => ext_f32from 2143289344 w
  rw [show ((2143289344 : Nat) : Int) = 2143289344 from rfl] at h3
  go_enter Try.func50, Try.ntmps50
  go_wp2
  go_ret
  exact ⟨rfl, rfl⟩
end Go.Proofs.Ytamgekijihpgkaa
