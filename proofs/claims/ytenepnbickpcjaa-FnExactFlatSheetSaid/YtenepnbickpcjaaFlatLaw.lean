/- The law's walk of FlatSheet. -/
import Derived.Test.YtenepnbickpcjaaFlat3
import Derived.Test.YtenepnbickpcjaaBoxS
namespace Go.Proofs.Ytenepnbickpcjaa
open Go.RowKit

set_option maxRecDepth 100000 in
set_option maxHeartbeats 2000000 in
theorem flatLaw (sw sh : Int) (x : Nat) (w : World) : Calls Try.prog 10 #[.int .i64 sw, .int .i64 sh, .float .f32 x] w fun e w' => e = .returned (.bool true) ∧ Below w.heap.size w w' := by
  have S := specFl_any sw sh x
  have I := implFl_any sw sh x
  have hll := flL_len sw sh x
  generalize flW sw sh x = fw at S I
  generalize flH sw sh x = fh at S I
  generalize flB sw sh x = ok at S I
  generalize flL sw sh x = l at S I hll
  go_enter Try.func10, Try.ntmps10
  go_wp2_with fail
  refine (S _).mono ?_
  rintro e w1 ⟨A1, c1, x1, rfl, e1, o1, k1⟩
  have E1 := Lib.hid e1
  have l1 : x1.length ≤ 1048576 := by rw [← cl_len, E1.out]; omega
  clear e1
  obtain ⟨v1, hv1⟩ : ∃ v, v = w1.alloc (.cells #[.int .i64 fw, .int .i64 fh, .slice A1 x1.length c1] 33) := ⟨_, rfl⟩
  have ka : Below w1.heap.size w1 v1 := by rw [hv1]; exact below_alloc _ _
  have bw : BoxS v1 w1.heap.size fw fh A1 x1.length c1 := by rw [hv1]; exact boxS_new _ _ _ _ _ _ _ _ rfl
  have zv : v1.heap.size = w1.heap.size + 1 := by rw [hv1, World.size_alloc]
  have o1 := o1.below ka
  have K1 := Below.step k1 ka
  have zw := K1.size
  have h1lt : ∀ b, InA A1 b → b < v1.heap.size := fun b h => (o1.2.2 b h).2
  clear k1 ka
  go_wp2_with fail
  rw [← hv1]
  clear hv1
  refine (I _).mono ?_
  rintro e w2 ⟨A2, c2, x2, rfl, e2, o2, k2⟩
  have E2 := Lib.hid e2
  have l2 : x2.length ≤ 1048576 := by rw [← cl_len, E2.out]; omega
  clear e2
  have h2lt : ∀ b, InA A2 b → v1.heap.size ≤ b ∧ b < w2.heap.size := o2.2.2
  have zk := k2.size
  obtain ⟨b_, b0, b1, b2⟩ := bw.below k2
  have o1 := o1.below k2
  have K2 := Below.step K1 k2
  clear k2 K1 bw
  go_wp2_with fail
  obtain ⟨v2, hv2⟩ : ∃ v, v = w2.alloc (.cells #[.int .i64 fw, .int .i64 fh, .slice A2 x2.length c2] 33) := ⟨_, rfl⟩
  have ka : Below w2.heap.size w2 v2 := by rw [hv2]; exact below_alloc _ _
  obtain ⟨g_, g0, g1, g2⟩ : BoxS v2 w2.heap.size fw fh A2 x2.length c2 := by rw [hv2]; exact boxS_new _ _ _ _ _ _ _ _ rfl
  rw [← hv2]
  clear hv2
  obtain ⟨b_, b0, b1, b2⟩ := (BoxS.mk b_ b0 b1 b2).below ka
  have o1 := o1.below ka
  have o2 := o2.below ka
  have K2 := Below.step K2 ka
  clear ka
  refine (eqSheet_ok fw fh A2 A1 c2 c1 x2 x1 v2 o2.1 o1.1 (by unfold maxLen; omega) (by have a := E1.out; have b := E2.out; unfold cl at a b; rw [a, b])).mono ?_
  rintro e w3 ⟨rfl, k3⟩
  obtain ⟨b_, b0, b1, b2⟩ := (BoxS.mk b_ b0 b1 b2).below k3
  obtain ⟨g_, g0, g1, g2⟩ := (BoxS.mk g_ g0 g1 g2).below k3
  have o1 := o1.below k3
  have o2 := o2.below k3
  have K3 := Below.step K2 k3
  clear k3 K2
  go_wp2_with fail
  refine (markSheet_any fw fh A2 x2.length c2 _ 1 rfl w3 (by have := o2.2.1; simpa using this) (fun b h => (o2.2.2 b h).2) (by omega) (by omega)).mono ?_
  rintro e w4 ⟨rfl, k4, m4⟩
  obtain ⟨b_, b0, b1, b2⟩ := (BoxS.mk b_ b0 b1 b2).keep k4 (fun h => by have := (h2lt _ h).1; omega)
  obtain ⟨g_, g0, g1, g2⟩ := (BoxS.mk g_ g0 g1 g2).keep k4 (fun h => by have := (h2lt _ h).2; omega)
  have o1 := o1.keep k4 (fun b h h' => by have := h1lt b h; have := (h2lt b h').1; omega)
  have K4 := k4.below K3 (by have := K3.size; omega) (fun b h => by have := (h2lt b h).1; have := K3.size; omega)
  clear k4 K3 o2
  go_wp2_with fail
  refine (heldSheet_ok fw fh A2 x2.length c2 _ 1 rfl w4 m4 (by omega) (by omega)).mono ?_
  rintro e w5 ⟨rfl, k5⟩
  obtain ⟨b_, b0, b1, b2⟩ := (BoxS.mk b_ b0 b1 b2).below k5
  obtain ⟨g_, g0, g1, g2⟩ := (BoxS.mk g_ g0 g1 g2).below k5
  have o1 := o1.below k5
  have m5 := Rd.below m4 k5
  have K5 := Below.step K4 k5
  clear k5 K4 m4
  go_wp2_with fail
  refine (I _).mono ?_
  rintro e w6 ⟨A6, c6, x6, rfl, e6, o6, k6⟩
  have E6 := Lib.hid e6
  have l6 : x6.length ≤ 1048576 := by rw [← cl_len, E6.out]; omega
  clear e6
  obtain ⟨b_, b0, b1, b2⟩ := (BoxS.mk b_ b0 b1 b2).below k6
  obtain ⟨g_, g0, g1, g2⟩ := (BoxS.mk g_ g0 g1 g2).below k6
  have o1 := o1.below k6
  have m6 := Rd.below m5 k6
  have K6 := Below.step K5 k6
  clear k6 K5 m5
  go_wp2_with fail
  obtain ⟨v6, hv6⟩ : ∃ v, v = w6.alloc (.cells #[.int .i64 fw, .int .i64 fh, .slice A6 x6.length c6] 33) := ⟨_, rfl⟩
  have ka : Below w6.heap.size w6 v6 := by rw [hv6]; exact below_alloc _ _
  rw [← hv6]
  clear hv6
  obtain ⟨b_, b0, b1, b2⟩ := (BoxS.mk b_ b0 b1 b2).below ka
  obtain ⟨g_, g0, g1, g2⟩ := (BoxS.mk g_ g0 g1 g2).below ka
  have o1 := o1.below ka
  have o6 := o6.below ka
  have m6 := Rd.below m6 ka
  have K6 := Below.step K6 ka
  clear ka
  refine (eqSheet_ok fw fh A6 A1 c6 c1 x6 x1 v6 o6.1 o1.1 (by unfold maxLen; omega) (by have a := E1.out; have b := E6.out; unfold cl at a b; rw [a, b])).mono ?_
  rintro e w7 ⟨rfl, k7⟩
  obtain ⟨g_, g0, g1, g2⟩ := (BoxS.mk g_ g0 g1 g2).below k7
  have m7 := Rd.below m6 k7
  have K7 := Below.step K6 k7
  clear k7 K6 m6
  go_wp2_with fail
  refine (heldSheet_ok fw fh A2 x2.length c2 _ 1 rfl w7 m7 (by omega) (by omega)).mono ?_
  rintro e w8 ⟨rfl, k8⟩
  have K8 := Below.step K7 k8
  clear k8 K7
  go_wp2
  go_ret
  exact ⟨rfl, K8⟩
end Go.Proofs.Ytenepnbickpcjaa
