/- The law's walk of CantorSet. -/
import Derived.Test.YtcdademaamoboaaCantor
namespace Go.Proofs.Ytcdademaamoboaa
open Go.RowKit

set_option maxHeartbeats 2000000 in
theorem cantorLaw (n : Int) (w : World) : Calls Try.prog 5 #[.int .i64 n] w fun e w' => e = .returned (.bool true) ∧ Below w.heap.size w w' := by
  obtain ⟨l, ok, hll, hb⟩ := cantor_both n
  have HB := Lib.hid hb
  clear hb
  go_enter Try.func5, Try.ntmps5
  go_wp2_with fail
  refine (HB.out _).1.mono ?_
  rintro e w1 ⟨A1, c1, x1, rfl, e1, o1, k1⟩
  have E1 := Lib.hid e1
  have l1 : x1.length ≤ 1048576 := by rw [← cl_len, E1.out]; exact hll
  clear e1
  go_wp2_with fail
  refine (HB.out _).2.mono ?_
  rintro e w2 ⟨A2, c2, x2, rfl, e2, o2, k2⟩
  have E2 := Lib.hid e2
  have l2 : x2.length ≤ 1048576 := by rw [← cl_len, E2.out]; exact hll
  clear e2
  have r1 := Rd.below o1.1 k2
  have b1 : ∀ b, InA A1 b → b < w1.heap.size := fun b h => (o1.2.2 b h).2
  have b2 : ∀ b, InA A2 b → w1.heap.size ≤ b ∧ b < w2.heap.size := o2.2.2
  have wr2 : WrA w2 A2 x2.length := by have := o2.2.1; simpa using this
  have r2 := o2.1
  have K2 := Below.step k1 k2
  have z1 := k1.size
  have z2 := k2.size
  clear o1 o2 k1 k2
  go_wp2_with fail
  refine (eqF32_ok _ _ _ _ _ _ _ r2 r1 (by unfold maxLen; omega) (by have a := E1.out; have b := E2.out; unfold cl at a b; rw [a, b])).mono ?_
  rintro e w3 ⟨rfl, n3, rfl⟩
  go_wp2_with fail
  refine (markF32_any _ _ _ _ 1 rfl (w2.drewN n3) wr2 (fun b h => (b2 b h).2) (by omega) (by omega)).mono ?_
  rintro e w4 ⟨rfl, k4, m4⟩
  have z4 := k4.size
  have r1 := Rd.keepA (Rd.drewN r1 n3) k4 (fun b h h' => by have := b1 b h; have := (b2 b h').1; omega)
  have K4 := k4.below (below_drewN K2 n3) (by show w.heap.size ≤ w2.heap.size; omega) (fun b h => by have := (b2 b h).1; omega)
  clear k4 K2 wr2 r2
  go_wp2_with fail
  refine (heldF32_ok _ _ _ _ 1 rfl _ m4 (by omega) (by omega)).mono ?_
  rintro e w5 ⟨rfl, rfl⟩
  go_wp2_with fail
  refine (HB.out _).2.mono ?_
  rintro e w6 ⟨A6, c6, x6, rfl, e6, o6, k6⟩
  have E6 := Lib.hid e6
  have l6 : x6.length ≤ 1048576 := by rw [← cl_len, E6.out]; exact hll
  clear e6
  have r1 := Rd.below r1 k6
  have m6 := Rd.below m4 k6
  have K6 := Below.step K4 k6
  have r6 := o6.1
  clear k6 K4 m4 o6 HB
  go_wp2_with fail
  refine (eqF32_ok _ _ _ _ _ _ _ r6 r1 (by unfold maxLen; omega) (by have a := E1.out; have b := E6.out; unfold cl at a b; rw [a, b])).mono ?_
  rintro e w7 ⟨rfl, n7, rfl⟩
  go_wp2_with fail
  refine (heldF32_ok _ _ _ _ 1 rfl (w6.drewN n7) m6 (by omega) (by omega)).mono ?_
  rintro e w8 ⟨rfl, rfl⟩
  go_wp2
  go_ret
  exact ⟨rfl, below_drewN K6 _⟩
end Go.Proofs.Ytcdademaamoboaa
