/- The walk of FnExactCoastOf. -/
import Derived.Test.YtcdipgkdbannmaaCoastB
import Derived.Deep.RegionWith
import Derived.BigRegion
namespace Go.Proofs.Ytcdipgkdbannmaa
open Go.RowKit
set_option maxRecDepth 100000 in
set_option maxHeartbeats 2000000 in
theorem coastLaw (sw sh : Int) (A : Option Addr) (c : Nat) (xs : List Nat) (lev : Nat) (w : World) (hA : FRd w A xs) (hn : xs.length ≤ maxLen) :
    Calls Try.prog 4 #[shv sw sh A xs.length c, .float .f32 lev] w fun e w' => e = .returned (.bool true) ∧ Below w.heap.size w w' := by
  by_cases hl : xs.length ≤ 1048576
  · have S := fun (A : Option Addr) (c : Nat) (w : World) (hA : FRd w A xs) => specCoast_any sw sh A c xs lev w hA hn
    have I := fun (A : Option Addr) (c : Nat) (w : World) (hA : FRd w A xs) => implCoast_any sw sh A c xs lev w hA hn
    generalize (ctL sw sh xs lev).length = G0 at S I
    generalize ctOk sw sh xs lev = G1 at S I
    go_enter Try.func4, Try.ntmps4
    go_wp2_with fail
    refine (szSheet_few _ _ _ _ _ 1048576 _ (Nat.le_refl _) hl).mono ?_
    rintro e w1 ⟨rfl, k1⟩
    have z1 : w.heap.size < w1.heap.size := by have := k1.size; simp at this; omega
    have a0 : w1.cell? ⟨w.heap.size, 0, none⟩ = some (.int .i64 sw) := (k1.cell (by simp)).trans (by simp)
    have a1 : w1.cell? ⟨w.heap.size, 1, none⟩ = some (.int .i64 sh) := (k1.cell (by simp)).trans (by simp)
    have a2 : w1.cell? ⟨w.heap.size, 2, none⟩ = some (.slice A xs.length c) := (k1.cell (by simp)).trans (by simp)
    have hA1 := (Rd.below hA (below_alloc _ _)).below k1
    have K1 := Below.step (below_alloc _ _) k1
    clear k1
    go_wp2_with fail
    refine (toSheet_any _ _ _ _ _ _ hA1 (by omega)).mono ?_
    rintro e w2 ⟨B2, c2, rfl, o2, k2⟩
    have z2 : w.heap.size < w2.heap.size := Nat.lt_of_lt_of_le z1 k2.size
    have a0 := (k2.cell z1).trans a0
    have a1 := (k2.cell z1).trans a1
    have a2 := (k2.cell z1).trans a2
    have hA2 := Rd.below hA1 k2
    have K2 := Below.step K1 k2
    clear k2 K1 hA1
    go_wp2_with fail
    refine (S _ _ _ o2.1).mono ?_
    rintro e w3 ⟨rfl, k3⟩
    have z3 : w.heap.size < w3.heap.size := Nat.lt_of_lt_of_le z2 k3.size
    have a0 := (k3.cell z2).trans a0
    have a1 := (k3.cell z2).trans a1
    have a2 := (k3.cell z2).trans a2
    have hA3 := Rd.below hA2 k3
    have K3 := Below.step K2 k3
    clear k3 K2 hA2 o2
    go_wp2_with fail
    refine (toSheet_any _ _ _ _ _ _ hA3 (by omega)).mono ?_
    rintro e w4 ⟨B4, c4, rfl, o4, k4⟩
    have z4 : w.heap.size < w4.heap.size := Nat.lt_of_lt_of_le z3 k4.size
    have a0 := (k4.cell z3).trans a0
    have a1 := (k4.cell z3).trans a1
    have a2 := (k4.cell z3).trans a2
    have hA4 := Rd.below hA3 k4
    have K4 := Below.step K3 k4
    clear k4 K3 hA3
    go_wp2_with fail
    refine (I _ _ _ (Rd.below o4.1 (below_alloc _ _))).mono ?_
    rintro e w8 ⟨rfl, k5⟩
    have x0 : w8.cell? ⟨w4.heap.size, 0, none⟩ = some (.int .i64 sw) := (k5.cell (by simp)).trans (by simp)
    have x1 : w8.cell? ⟨w4.heap.size, 1, none⟩ = some (.int .i64 sh) := (k5.cell (by simp)).trans (by simp)
    have x2 : w8.cell? ⟨w4.heap.size, 2, none⟩ = some (.slice B4 xs.length c4) := (k5.cell (by simp)).trans (by simp)
    have y8 : w4.heap.size < w8.heap.size := by have := k5.size; simp at this; omega
    have k5' := Below.step (below_alloc _ _) k5
    have z8 : w.heap.size < w8.heap.size := Nat.lt_of_lt_of_le z4 k5'.size
    have a0 := (k5'.cell z4).trans a0
    have a1 := (k5'.cell z4).trans a1
    have a2 := (k5'.cell z4).trans a2
    have hA8 := Rd.below hA4 k5'
    have h8 := Rd.below o4.1 k5'
    have K8 := Below.step K4 k5'
    clear k5 k5' K4 hA4 o4 S I
    go_wp2_with fail
    go_region_with (first
      | (go_at_call 11; refine (toSheet_any _ _ _ _ _ _ (by exact hA8) (by omega)).mono ?_; rintro e w6 ⟨B6, c6, rfl, o6, k6⟩; have x0 := (k6.cell y8).trans x0; have x1 := (k6.cell y8).trans x1; have x2 := (k6.cell y8).trans x2; have h6 := Rd.below (w := w8.drew) (by exact h8) k6; have K6 := Below.step K8.drew k6; clear k6)
      | (go_at_call 14; refine (eqSheet_ok _ _ _ _ _ _ _ _ _ h6 o6.1 hn rfl).mono ?_; rintro e w7 ⟨rfl, k7⟩; have K7 := Below.step K6 k7; clear k7))
    all_goals
      go_wp2
      go_ret
      exact ⟨rfl, K7⟩
  · go_enter Try.func4, Try.ntmps4
    go_wp2_with fail
    refine (szSheet_many _ _ _ _ _ 1048576 _ (Nat.le_refl _) (by omega) hn).mono ?_
    rintro e w1 ⟨rfl, k1⟩
    go_wp2
    go_ret
    exact ⟨rfl, Below.step (below_alloc _ _) k1⟩
end Go.Proofs.Ytcdipgkdbannmaa
