/- IsList, both sides, and its law's walk. -/
import Derived.Test.YtcdademaamoboaaOpenF
import Derived.Test.YtcdademaamoboaaFin
namespace Go.Proofs.Ytcdademaamoboaa
open Go.RowKit

/-- A list: few numbers, all finite. -/
def lstB (xs : List Nat) : Bool := decide (xs.length ≤ 256) && finL xs

theorem l06List_any (A : Option Addr) (c : Nat) (xs : List Nat) (w : World) (hA : FRd w A xs) (hn : xs.length ≤ maxLen) :
    Calls Try.prog 45 #[.slice A xs.length c] w fun e w' => e = .returned (.bool (lstB xs)) ∧ ∃ n, w' = w.drewN n := by
  by_cases hl : xs.length ≤ 256
  · have hd : decide ((xs.length : Int) ≤ 256) = true := by simp; omega
    go_enter Try.func45, Try.ntmps45
    go_wp2_with (go_at_call 60; refine (l02Finite_any _ _ _ _ hA hn).mono ?_; rintro e w' ⟨rfl, n', rfl⟩)
    go_ret
    exact ⟨ret_bool (by simp [lstB, hl]), _, rfl⟩
  · have hd : decide ((xs.length : Int) ≤ 256) = false := by simp; omega
    go_enter Try.func45, Try.ntmps45
    go_wp2_with (go_at_call 60; refine (l02Finite_any _ _ _ _ hA hn).mono ?_; rintro e w' ⟨rfl, n', rfl⟩)
    go_ret
    exact ⟨ret_bool (by simp [lstB]; omega), 0, rfl⟩
theorem isList_any (A : Option Addr) (c : Nat) (xs : List Nat) (w : World) (hA : FRd w A xs) (hn : xs.length ≤ maxLen) :
    Calls Try.prog 19 #[.slice A xs.length c] w fun e w' => e = .returned (.bool (lstB xs)) ∧ ∃ n, w' = w.drewN n := by
  by_cases hl : xs.length ≤ 256
  · have hd : decide ((xs.length : Int) ≤ 256) = true := by simp; omega
    go_enter Try.func19, Try.ntmps19
    go_wp2_with (go_at_call 46; refine (areFinite_any _ _ _ _ hA hn).mono ?_; rintro e w' ⟨rfl, n', rfl⟩)
    go_ret
    exact ⟨ret_bool (by simp [lstB, hl]), _, rfl⟩
  · have hd : decide ((xs.length : Int) ≤ 256) = false := by simp; omega
    go_enter Try.func19, Try.ntmps19
    go_wp2_with (go_at_call 46; refine (areFinite_any _ _ _ _ hA hn).mono ?_; rintro e w' ⟨rfl, n', rfl⟩)
    go_ret
    exact ⟨ret_bool (by simp [lstB]; omega), 0, rfl⟩
theorem specIsList_any (A : Option Addr) (c : Nat) (xs : List Nat) (w : World) (hA : FRd w A xs) (hn : xs.length ≤ maxLen) :
    Calls Try.prog 17 #[.slice A xs.length c] w fun e w' => e = .returned (.bool (lstB xs)) ∧ ∃ n, w' = w.drewN n := by
  go_enter Try.func17, Try.ntmps17
  go_wp2_with (go_at_call 45; refine (l06List_any _ _ _ _ hA hn).mono ?_; rintro e w' ⟨rfl, n', rfl⟩)
  go_ret
  exact ⟨rfl, _, rfl⟩

theorem isListLaw (A : Option Addr) (c : Nat) (xs : List Nat) (w : World) (hA : FRd w A xs) (hn : xs.length ≤ maxLen) :
    Calls Try.prog 4 #[.slice A xs.length c] w fun e w' => e = .returned (.bool true) ∧ Below w.heap.size w w' := by
  by_cases hl : xs.length ≤ 1048576
  · have hd : decide ((1048576 : Int) < xs.length) = false := by simp; omega
    go_enter Try.func4, Try.ntmps4
    go_wp2_with fail
    refine (toF32_any _ _ _ _ hA (by omega)).mono ?_
    rintro e w1 ⟨B1, c1, rfl, o1, k1⟩
    go_wp2_with fail
    refine (specIsList_any _ _ _ _ o1.1 hn).mono ?_
    rintro e w2 ⟨rfl, n2, rfl⟩
    have hA1 : FRd (w1.drewN n2) A xs := (Rd.below hA k1).drewN n2
    have K1 := below_drewN k1 n2
    clear k1 o1
    go_wp2_with fail
    refine (toF32_any _ _ _ _ hA1 (by omega)).mono ?_
    rintro e w3 ⟨B3, c3, rfl, o3, k3⟩
    have hA3 := Rd.below hA1 k3
    have K3 := Below.step K1 k3
    clear k3 K1 hA1
    go_wp2_with fail
    refine (isList_any _ _ _ _ o3.1 hn).mono ?_
    rintro e w4 ⟨rfl, n4, rfl⟩
    go_wp2_with fail
    refine (toF32_any _ _ _ (w3.drewN n4) hA3 (by omega)).mono ?_
    rintro e w5 ⟨B5, c5, rfl, o5, k5⟩
    have h3 : FRd w5 B3 xs := (o3.1.drewN n4).below k5
    have K5 := Below.step (below_drewN K3 n4) k5
    clear k5 K3 hA3 o3
    go_wp2_with fail
    refine (eqF32_ok _ _ _ _ _ _ _ h3 o5.1 hn rfl).mono ?_
    rintro e w6 ⟨rfl, n6, rfl⟩
    go_wp2
    go_ret
    exact ⟨rfl, below_drewN K5 _⟩
  · have hd : decide ((1048576 : Int) < xs.length) = true := by simp; omega
    go_enter Try.func4, Try.ntmps4
    go_wp2_with fail
    go_ret
    exact ⟨rfl, Below.refl _ _⟩
end Go.Proofs.Ytcdademaamoboaa
