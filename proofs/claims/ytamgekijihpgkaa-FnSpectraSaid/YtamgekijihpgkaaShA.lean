/- Numbers that an input chooses (b10At), and whether it is too long (b10Long). -/
import Derived.Test.YtamgekijihpgkaaSrc
namespace Go.Proofs.Ytamgekijihpgkaa
open Go.RowKit

theorem b10At_any (A : Option Addr) (L c : Nat) (k n : Nat) (w : World) (hB : BRd w A L) (_hL : L ≤ maxLen) (_hk : k ≤ 100) (h2 : 2 ≤ n) (h200 : n ≤ 200) :
    Calls Try.prog 6 #[.slice A L c, .int .i64 k, .int .i64 n] w fun e w' => ∃ x : Nat, e = .returned (.int .i64 x) ∧ x < n ∧ w = w' := by
  have hn1 : ¬ (n : Int) ≤ 1 := by omega
  have hn2 : (1 : Int) < n := by omega
  unfold maxLen at _hL
  by_cases hlt : k < L
  · obtain ⟨b, o, x, rfl, hb, hx, hc⟩ := hB k hlt
    have hkL : (k : Int) < L := by omega
    have hm : (x : Int) % n = ((x % n : Nat) : Int) := by omega
    have hl : x % n < n := Nat.mod_lt _ (by omega)
    have HM := Lib.hid hm
    generalize x % n = m at hl HM
    clear hm
    go_enter Try.func6, Try.ntmps6
    go_wp2
    go_ret
    exact ⟨m, ret_i HM.out, hl, rfl⟩
  · have hkL : ¬ (k : Int) < L := by omega
    have hm : ((k : Int) * 37 + 11) % n = (((k * 37 + 11) % n : Nat) : Int) := by push_cast; rfl
    have hl : (k * 37 + 11) % n < n := Nat.mod_lt _ (by omega)
    have HM := Lib.hid hm
    generalize (k * 37 + 11) % n = m at hl HM
    clear hm
    go_enter Try.func6, Try.ntmps6
    go_wp2
    go_ret
    exact ⟨m, ret_i HM.out, hl, rfl⟩
theorem b10Long_any (A B : Option Addr) (L c M d : Nat) (w : World) :
    Calls Try.prog 4 #[.slice A L c, .slice B M d] w fun e w' => e = .returned (.bool (decide (1048576 < L) || decide (1048576 < M))) ∧ w = w' := by
  by_cases h1 : (1048576 : Int) < L
  · have H1 := Lib.hid (decide_eq_true (p := 1048576 < L) (by omega))
    go_enter Try.func4, Try.ntmps4
    go_wp2
    go_ret
    exact ⟨by rw [H1.out]; rfl, rfl⟩
  · have H1 := Lib.hid (decide_eq_false (p := 1048576 < L) (by omega))
    by_cases h2 : (1048576 : Int) < M
    · have H2 := Lib.hid (decide_eq_true (p := 1048576 < M) (by omega))
      go_enter Try.func4, Try.ntmps4
      go_wp2
      go_ret
      exact ⟨by rw [H1.out, H2.out]; rfl, rfl⟩
    · have H2 := Lib.hid (decide_eq_false (p := 1048576 < M) (by omega))
      go_enter Try.func4, Try.ntmps4
      go_wp2
      go_ret
      exact ⟨by rw [H1.out, H2.out]; rfl, rfl⟩
end Go.Proofs.Ytamgekijihpgkaa
