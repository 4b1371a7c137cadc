/- The walk of FnExactSpectrumLine. -/
import Derived.Test.YteolemgilajaeaaSj
import Derived.Test.YteolemgilajaeaaF32
import Derived.BigRegion
namespace Go.Proofs.Yteolemgilajaeaa
open Go.RowKit

theorem spL_len (count : Int) (slope : Nat) (seed : Int) : (spL count slope seed).length ≤ 64 := by
  unfold spL
  split
  · rename_i h
    unfold spOk at h
    rw [Bool.and_eq_true, Bool.and_eq_true, Bool.and_eq_true] at h
    have := of_decide_eq_true h.1.1.2
    simp
    omega
  · exact Nat.zero_le _
set_option maxRecDepth 100000 in
set_option maxHeartbeats 2000000 in
theorem spLaw (n : Int) (slope : Nat) (seed : Int) (w : World) : Calls Try.prog 5 #[.int .i64 n, .float .f32 slope, .int .i64 seed] w fun e w' => e = .returned (.bool true) ∧ Below w.heap.size w w' := by
  have S := fun (w : World) => specSp_any n slope seed w
  have I := fun (w : World) => implSp_any n slope seed w
  have hll := spL_len n slope seed
  generalize spL n slope seed = l at S I hll
  generalize spS n slope seed = s0 at S I
  generalize spOk n slope seed = ok at S I
  go_enter Try.func5, Try.ntmps5
  go_wp2_with fail
  refine (S _).mono ?_
  rintro e w1 ⟨A1, c1, x1, rfl, o1, e1, k1⟩
  have E1 := Lib.hid e1
  have l1 : x1.length ≤ 64 := by rw [← List.length_map (f := cn .f32), E1.out]; exact hll
  clear e1 S
  go_wp2_with fail
  refine (I _).mono ?_
  rintro e w2 ⟨A2, c2, x2, rfl, o2, e2, k2⟩
  have E2 := Lib.hid e2
  have l2 : x2.length ≤ 64 := by rw [← List.length_map (f := cn .f32), E2.out]; exact hll
  clear e2
  have r1 := Rd.below o1.1 k2
  have b1 : ∀ b, InA A1 b → b < w1.heap.size := fun b h => (o1.2.2 b h).2
  have b2 : ∀ b, InA A2 b → w1.heap.size ≤ b ∧ b < w2.heap.size := o2.2.2
  have wr2 : WrA w2 A2 x2.length := by have := o2.2.1; simpa using this
  have r2 := o2.1
  have K2 := Below.step k1 k2
  have z1 := k1.size
  have z2 := k2.size
  clear o1 o2 k1 k2
  go_wp2_with fail
  refine (eqF32_ok _ _ _ _ _ _ _ r2 r1 (by unfold maxLen; omega) (by rw [E1.out, E2.out])).mono ?_
  rintro e w3 ⟨rfl, n3, rfl⟩
  go_wp2_with fail
  refine (markF32_any _ _ _ _ 1 rfl (w2.drewN n3) wr2 (fun b h => (b2 b h).2) (by omega) (by omega)).mono ?_
  rintro e w4 ⟨rfl, k4, m4⟩
  have z4 := k4.size
  have r1 := Rd.keepA (Rd.drewN r1 n3) k4 (fun b h h' => by have := b1 b h; have := (b2 b h').1; omega)
  have K4 := k4.below (below_drawN K2 n3) (by show w.heap.size ≤ w2.heap.size; omega) (fun b h => by have := (b2 b h).1; omega)
  clear k4 K2 wr2 r2
  go_wp2_with fail
  refine (heldF32_ok _ _ _ _ 1 rfl _ m4 (by omega) (by omega)).mono ?_
  rintro e w5 ⟨rfl, rfl⟩
  go_wp2_with fail
  refine (I _).mono ?_
  rintro e w6 ⟨A6, c6, x6, rfl, o6, e6, k6⟩
  have E6 := Lib.hid e6
  have l6 : x6.length ≤ 64 := by rw [← List.length_map (f := cn .f32), E6.out]; exact hll
  clear e6
  have r1 := Rd.below r1 k6
  have m6 := Rd.below m4 k6
  have K6 := Below.step K4 k6
  have r6 := o6.1
  clear k6 K4 m4 o6 I
  go_wp2_with fail
  refine (eqF32_ok _ _ _ _ _ _ _ r6 r1 (by unfold maxLen; omega) (by rw [E1.out, E6.out])).mono ?_
  rintro e w7 ⟨rfl, n7, rfl⟩
  go_wp2_with fail
  refine (heldF32_ok _ _ _ _ 1 rfl _ (Rd.drewN m6 n7) (by omega) (by omega)).mono ?_
  rintro e w8 ⟨rfl, rfl⟩
  go_wp2
  go_ret
  exact ⟨rfl, below_drawN K6 n7⟩
end Go.Proofs.Yteolemgilajaeaa
