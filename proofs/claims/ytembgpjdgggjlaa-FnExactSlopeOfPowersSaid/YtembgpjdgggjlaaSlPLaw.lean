/- The law's walk of SlopeOfPowers. -/
import Derived.Test.YtembgpjdgggjlaaSlP
import Derived.Test.YtembgpjdgggjlaaF32
namespace Go.Proofs.Ytembgpjdgggjlaa
open Go.RowKit

theorem sp_both (xs : List Nat) (hn : xs.length ≤ maxLen) : ∃ X ok, ∀ (A : Option Addr) (c : Nat) (w : World), FRd w A xs →
    (Calls Try.prog 32 #[.slice A xs.length c] w (NumB w X ok)) ∧ (Calls Try.prog 34 #[.slice A xs.length c] w (NumB w X ok)) :=
  ⟨spX xs, spOk xs, fun A c w hA => ⟨specSP_any A c xs w hA hn, implSP_any A c xs w hA hn⟩⟩
set_option maxHeartbeats 1000000 in
theorem spLaw (A : Option Addr) (c : Nat) (xs : List Nat) (w : World) (hA : FRd w A xs) (hn : xs.length ≤ maxLen) :
    Calls Try.prog 8 #[.slice A xs.length c] w fun e w' => e = .returned (.bool true) ∧ Below w.heap.size w w' := by
  obtain ⟨X, ok, hb⟩ := sp_both xs hn
  have HB := Lib.hid hb
  clear hb
  by_cases hl : xs.length ≤ 1048576
  · have hd : decide ((1048576 : Int) < xs.length) = false := by simp; omega
    go_enter Try.func8, Try.ntmps8
    go_wp2_with fail
    refine (toF32_any _ _ _ _ hA (by omega)).mono ?_
    rintro e w1 ⟨B1, c1, rfl, o1, k1⟩
    go_wp2_with fail
    refine (HB.out _ _ _ o1.1).1.mono ?_
    rintro e w2 ⟨b2, rfl, hx, k2⟩
    have HX := Lib.hid hx
    clear hx
    have hA1 : FRd w2 A xs := Rd.below (Rd.below hA k1) k2
    have K1 := Below.step k1 k2
    clear k1 o1 k2
    go_wp2_with fail
    refine (toF32_any _ _ _ w2 hA1 (by omega)).mono ?_
    rintro e w3 ⟨B3, c3, rfl, o3, k3⟩
    have hA3 := Rd.below hA1 k3
    have K3 := Below.step K1 k3
    clear k3 K1 hA1
    go_wp2_with fail
    refine (HB.out _ _ _ o3.1).2.mono ?_
    rintro e w4 ⟨b4, rfl, hx4, k4⟩
    have HX4 := Lib.hid hx4
    clear hx4
    have hA4 := Rd.below hA3 k4
    have o4 := o3.below k4
    have K4 := Below.step K3 k4
    clear k4 K3 hA3 o3 HB
    go_wp2_with fail
    refine (sameFloat_ok _ _ (by rw [cn_wres, cn_wres, HX.out, HX4.out]) _).mono ?_
    rintro e w5 ⟨rfl, n5, rfl⟩
    go_wp2_with fail
    refine (toF32_any _ _ _ _ (Rd.drewN hA4 _) (by omega)).mono ?_
    rintro e w6 ⟨B6, c6, rfl, o6, k6⟩
    have h6 : FRd w6 B3 xs := Rd.below (Rd.drewN o4.1 _) k6
    have K6 := Below.step (below_drewN K4 _) k6
    clear k6 K4 hA4 o4
    go_wp2_with fail
    refine (eqF32_ok _ _ _ _ _ _ _ h6 o6.1 hn rfl).mono ?_
    rintro e w7 ⟨rfl, n7, rfl⟩
    go_wp2
    go_ret
    exact ⟨rfl, below_drewN K6 _⟩
  · have hd : decide ((1048576 : Int) < xs.length) = true := by simp; omega
    go_enter Try.func8, Try.ntmps8
    go_wp2_with fail
    go_ret
    exact ⟨rfl, Below.refl _ _⟩
end Go.Proofs.Ytembgpjdgggjlaa
