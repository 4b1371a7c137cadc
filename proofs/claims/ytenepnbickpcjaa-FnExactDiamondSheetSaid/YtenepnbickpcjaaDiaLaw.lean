/- The law's walk of DiamondSheet. -/
import Derived.Test.YtenepnbickpcjaaDiaN
import Derived.Test.YtenepnbickpcjaaF32
namespace Go.Proofs.Ytenepnbickpcjaa
open Go.RowKit

theorem shC_len {sw sh : Int} {l : List Nat} (h : shC sw sh l = true) : l.length ≤ 289 := by
  unfold shC at h
  simp only [Bool.and_eq_true, decide_eq_true_eq] at h
  obtain ⟨⟨⟨⟨a, b⟩, c, d⟩, e⟩, _⟩ := h
  have := Int.mul_le_mul b d (by omega) (by omega : (0 : Int) ≤ 17)
  omega
theorem dia_both (p : Int) (xs : List Nat) (rf fd : Nat) (sd : Int) (hn : xs.length ≤ maxLen) : ∃ fw fh l sd2 ok, l.length ≤ 1048576 ∧
    (∀ (A : Option Addr) (c : Nat) (w : World), FRd w A xs → Calls Try.prog 37 #[.int .i64 p, .slice A xs.length c, .float .f32 rf, .float .f32 fd, .int .i64 sd] w (SdR w fw fh l sd2 ok)) ∧
    (∀ (A : Option Addr) (c : Nat) (w : World), FRd w A xs → Calls Try.prog 39 #[.int .i64 p, .slice A xs.length c, .float .f32 rf, .float .f32 fd, .int .i64 sd] w (SdR w fw fh l sd2 ok)) := by
  refine ⟨_, _, _, _, _, ?_, fun A c w hA => specD_any p A c xs rf fd sd w hA hn, fun A c w hA => implD_any p A c xs rf fd sd w hA hn⟩
  cases h : diaB p (cl xs) (cn .f32 rf) (cn .f32 fd) sd
  · simp
  · have h2 := h
    unfold diaB at h2
    rw [Bool.and_eq_true] at h2
    have := shC_len h2.2
    simp
    omega
set_option maxRecDepth 100000 in
set_option maxHeartbeats 4000000 in
theorem diaLaw (p : Int) (A : Option Addr) (c : Nat) (xs : List Nat) (rf fd : Nat) (sd : Int) (w : World) (hA : FRd w A xs) (hn : xs.length ≤ maxLen) :
    Calls Try.prog 12 #[.int .i64 p, .slice A xs.length c, .float .f32 rf, .float .f32 fd, .int .i64 sd] w fun e w' => e = .returned (.bool true) ∧ Below w.heap.size w w' := by
  obtain ⟨fw, fh, l, sd2, ok, hll, hS, hI⟩ := dia_both p xs rf fd sd hn
  by_cases hl : xs.length ≤ 1048576
  · skip
    have hd : decide ((1048576 : Int) < xs.length) = false := by simp; omega
    have HB1 := Lib.hid hS
    have HB2 := Lib.hid hI
    clear hS hI
    go_enter Try.func12, Try.ntmps12
    go_wp2_with fail
    refine (toF32_any _ _ _ _ hA (by omega)).mono ?_
    rintro e wa ⟨Ba, ca, rfl, oa, ka⟩
    go_wp2_with fail
    refine (HB1.out _ _ _ oa.1).mono ?_
    rintro e w1 ⟨A1, c1, x1, rfl, e1, o1, k1⟩
    have Ex1 := Lib.hid e1
    have l1 : x1.length ≤ 1048576 := by rw [← cl_len, e1]; exact hll
    have h1 : ∀ b, InA A1 b → b < w1.heap.size := fun b h => (o1.2.2 b h).2
    have K := Below.step ka k1
    have KZ := Lib.hid K.size
    clear ka k1 e1 oa HB1
    obtain ⟨v1, hv1⟩ : ∃ v, v = w1.alloc (.cells #[.int .i64 fw, .int .i64 fh, .slice A1 x1.length c1] 33) := ⟨_, rfl⟩
    have ka : Below w1.heap.size w1 v1 := by rw [hv1]; exact below_alloc _ _
    have bn : BoxS v1 w1.heap.size fw fh A1 x1.length c1 := by rw [hv1]; exact boxS_new _ _ _ _ _ _ _ _ rfl
    have zv1 : v1.heap.size = w1.heap.size + 1 := by rw [hv1, World.size_alloc]
    go_wp2_with fail
    rw [← hv1]
    clear hv1
    have o1 := o1.below ka
    have K := Below.step K ka
    clear ka
    obtain ⟨b_, b0, b1, b2⟩ := bn
    have hAc := Rd.below hA K
    refine (toF32_any _ _ _ _ hAc (by omega)).mono ?_
    rintro e w2 ⟨B2, c2, rfl, o2, k2⟩
    have h2 : ∀ b, InA B2 b → v1.heap.size ≤ b ∧ b < w2.heap.size := o2.2.2
    obtain ⟨b_, b0, b1, b2⟩ := (BoxS.mk b_ b0 b1 b2).below k2
    have o1 := o1.below k2
    have K := Below.step K k2
    have z2 := k2.size
    clear k2
    go_wp2_with fail
    refine (HB2.out _ _ _ o2.1).mono ?_
    rintro e w3 ⟨A3, c3, x3, rfl, e3, o3, k3⟩
    have Ex3 := Lib.hid e3
    have l3 : x3.length ≤ 1048576 := by rw [← cl_len, e3]; exact hll
    have h3 : ∀ b, InA A3 b → w2.heap.size ≤ b ∧ b < w3.heap.size := o3.2.2
    clear e3
    obtain ⟨b_, b0, b1, b2⟩ := (BoxS.mk b_ b0 b1 b2).below k3
    have o1 := o1.below k3
    have o2 := o2.below k3
    have K := Below.step K k3
    have z3 := k3.size
    clear k3
    obtain ⟨v3, hv3⟩ : ∃ v, v = w3.alloc (.cells #[.int .i64 fw, .int .i64 fh, .slice A3 x3.length c3] 33) := ⟨_, rfl⟩
    have ka : Below w3.heap.size w3 v3 := by rw [hv3]; exact below_alloc _ _
    have gn : BoxS v3 w3.heap.size fw fh A3 x3.length c3 := by rw [hv3]; exact boxS_new _ _ _ _ _ _ _ _ rfl
    have zv3 : v3.heap.size = w3.heap.size + 1 := by rw [hv3, World.size_alloc]
    go_wp2_with fail
    rw [← hv3]
    clear hv3
    obtain ⟨b_, b0, b1, b2⟩ := (BoxS.mk b_ b0 b1 b2).below ka
    have o1 := o1.below ka
    have o2 := o2.below ka
    have o3 := o3.below ka
    have K := Below.step K ka
    clear ka
    obtain ⟨g_, g0, g1, g2⟩ := gn
    refine (eqSheet_ok fw fh A3 A1 c3 c1 x3 x1 _ o3.1 o1.1 (by unfold maxLen; omega) (by have a := Ex3.out; have b := Ex1.out; unfold cl at a b; rw [a, b])).mono ?_
    rintro e w4 ⟨rfl, k4⟩
    obtain ⟨b_, b0, b1, b2⟩ := (BoxS.mk b_ b0 b1 b2).below k4
    obtain ⟨g_, g0, g1, g2⟩ := (BoxS.mk g_ g0 g1 g2).below k4
    have o1 := o1.below k4
    have o2 := o2.below k4
    have o3 := o3.below k4
    have K := Below.step K k4
    clear k4
    go_wp2_with fail
    have hAc := Rd.below hA K
    refine (toF32_any _ _ _ _ hAc (by omega)).mono ?_
    rintro e w5 ⟨B5, c5, rfl, o5, k5⟩
    obtain ⟨b_, b0, b1, b2⟩ := (BoxS.mk b_ b0 b1 b2).below k5
    obtain ⟨g_, g0, g1, g2⟩ := (BoxS.mk g_ g0 g1 g2).below k5
    have o1 := o1.below k5
    have o2 := o2.below k5
    have o3 := o3.below k5
    have K := Below.step K k5
    clear k5
    go_wp2_with fail
    refine (eqF32_ok _ _ _ _ _ _ _ o2.1 o5.1 hn rfl).mono ?_
    rintro e w6 ⟨rfl, n6, hw6⟩
    have k6 : Below w5.heap.size w5 w6 := by rw [hw6]; exact below_drewN (Below.refl _ _) _
    clear hw6 o5
    obtain ⟨b_, b0, b1, b2⟩ := (BoxS.mk b_ b0 b1 b2).below k6
    obtain ⟨g_, g0, g1, g2⟩ := (BoxS.mk g_ g0 g1 g2).below k6
    have o1 := o1.below k6
    have o2 := o2.below k6
    have o3 := o3.below k6
    have K := Below.step K k6
    clear k6
    go_wp2_with fail
    refine (markF32_any B2 xs.length c2 _ 1 rfl _ (by have := o2.2.1; simpa using this) (fun b h => (o2.2.2 b h).2) (by omega) (by omega)).mono ?_
    rintro e w7 ⟨rfl, k7, _⟩
    obtain ⟨b_, b0, b1, b2⟩ := (BoxS.mk b_ b0 b1 b2).keep k7 (fun h => by have := (h2 _ h).1; omega)
    obtain ⟨g_, g0, g1, g2⟩ := (BoxS.mk g_ g0 g1 g2).keep k7 (fun h => by have := (h2 _ h).2; omega)
    have o1 := o1.keep k7 (fun b h e => by have := h1 b h; have := (h2 b e).1; omega)
    have o3 := o3.keep k7 (fun b h e => by have := (h3 b h).1; have := (h2 b e).2; omega)
    have K := k7.below K (by have := K.size; omega) (fun k h => by have := (h2 _ h).1; have := KZ.out; omega)
    clear k7 o2
    go_wp2_with fail
    refine (eqSheet_ok fw fh A3 A1 c3 c1 x3 x1 _ o3.1 o1.1 (by unfold maxLen; omega) (by have a := Ex3.out; have b := Ex1.out; unfold cl at a b; rw [a, b])).mono ?_
    rintro e w8 ⟨rfl, k8⟩
    obtain ⟨b_, b0, b1, b2⟩ := (BoxS.mk b_ b0 b1 b2).below k8
    obtain ⟨g_, g0, g1, g2⟩ := (BoxS.mk g_ g0 g1 g2).below k8
    have o1 := o1.below k8
    have o3 := o3.below k8
    have K := Below.step K k8
    clear k8
    go_wp2_with fail
    refine (markSheet_any fw fh A3 x3.length c3 _ 1 rfl _ (by have := o3.2.1; simpa using this) (fun b h => (o3.2.2 b h).2) (by omega) (by omega)).mono ?_
    rintro e w9 ⟨rfl, k9, m9⟩
    obtain ⟨b_, b0, b1, b2⟩ := (BoxS.mk b_ b0 b1 b2).keep k9 (fun h => by have := (h3 _ h).1; omega)
    obtain ⟨g_, g0, g1, g2⟩ := (BoxS.mk g_ g0 g1 g2).keep k9 (fun h => by have := (h3 _ h).2; omega)
    have o1 := o1.keep k9 (fun b h e => by have := h1 b h; have := (h3 b e).1; omega)
    have K := k9.below K (by have := K.size; omega) (fun k h => by have := (h3 _ h).1; have := KZ.out; omega)
    clear k9 o3
    go_wp2_with fail
    refine (heldSheet_ok fw fh A3 x3.length c3 _ 1 rfl _ m9 (by omega) (by omega)).mono ?_
    rintro e w10 ⟨rfl, k10⟩
    obtain ⟨b_, b0, b1, b2⟩ := (BoxS.mk b_ b0 b1 b2).below k10
    obtain ⟨g_, g0, g1, g2⟩ := (BoxS.mk g_ g0 g1 g2).below k10
    have o1 := o1.below k10
    have m9 := Rd.below m9 k10
    have K := Below.step K k10
    clear k10
    go_wp2_with fail
    have hAc := Rd.below hA K
    refine (toF32_any _ _ _ _ hAc (by omega)).mono ?_
    rintro e w11 ⟨B11, c11, rfl, o11, k11⟩
    obtain ⟨b_, b0, b1, b2⟩ := (BoxS.mk b_ b0 b1 b2).below k11
    obtain ⟨g_, g0, g1, g2⟩ := (BoxS.mk g_ g0 g1 g2).below k11
    have o1 := o1.below k11
    have m9 := Rd.below m9 k11
    have K := Below.step K k11
    clear k11
    go_wp2_with fail
    refine (HB2.out _ _ _ o11.1).mono ?_
    rintro e w12 ⟨A12, c12, x12, rfl, e12, o12, k12⟩
    have Ex12 := Lib.hid e12
    have l12 : x12.length ≤ 1048576 := by rw [← cl_len, e12]; exact hll
    clear e12 o11
    obtain ⟨b_, b0, b1, b2⟩ := (BoxS.mk b_ b0 b1 b2).below k12
    obtain ⟨g_, g0, g1, g2⟩ := (BoxS.mk g_ g0 g1 g2).below k12
    have o1 := o1.below k12
    have m9 := Rd.below m9 k12
    have K := Below.step K k12
    clear k12
    obtain ⟨v12, hv12⟩ : ∃ v, v = w12.alloc (.cells #[.int .i64 fw, .int .i64 fh, .slice A12 x12.length c12] 33) := ⟨_, rfl⟩
    have ka : Below w12.heap.size w12 v12 := by rw [hv12]; exact below_alloc _ _
    have hn : BoxS v12 w12.heap.size fw fh A12 x12.length c12 := by rw [hv12]; exact boxS_new _ _ _ _ _ _ _ _ rfl
    have zv12 : v12.heap.size = w12.heap.size + 1 := by rw [hv12, World.size_alloc]
    go_wp2_with fail
    rw [← hv12]
    clear hv12
    obtain ⟨b_, b0, b1, b2⟩ := (BoxS.mk b_ b0 b1 b2).below ka
    obtain ⟨g_, g0, g1, g2⟩ := (BoxS.mk g_ g0 g1 g2).below ka
    have o1 := o1.below ka
    have o12 := o12.below ka
    have m9 := Rd.below m9 ka
    have K := Below.step K ka
    clear ka
    obtain ⟨h_, h0, h1, h2⟩ := hn
    refine (eqSheet_ok fw fh A12 A1 c12 c1 x12 x1 _ o12.1 o1.1 (by unfold maxLen; omega) (by have a := Ex12.out; have b := Ex1.out; unfold cl at a b; rw [a, b])).mono ?_
    rintro e w13 ⟨rfl, k13⟩
    obtain ⟨b_, b0, b1, b2⟩ := (BoxS.mk b_ b0 b1 b2).below k13
    obtain ⟨g_, g0, g1, g2⟩ := (BoxS.mk g_ g0 g1 g2).below k13
    obtain ⟨h_, h0, h1, h2⟩ := (BoxS.mk h_ h0 h1 h2).below k13
    have o1 := o1.below k13
    have o12 := o12.below k13
    have m9 := Rd.below m9 k13
    have K := Below.step K k13
    clear k13
    go_wp2_with fail
    refine (heldSheet_ok fw fh A3 x3.length c3 _ 1 rfl _ m9 (by omega) (by omega)).mono ?_
    rintro e w14 ⟨rfl, k14⟩
    have K := Below.step K k14
    go_wp2
    go_ret
    exact ⟨rfl, K⟩
  · have hd : decide ((1048576 : Int) < xs.length) = true := by simp; omega
    go_enter Try.func12, Try.ntmps12
    go_wp2_with fail
    go_ret
    exact ⟨rfl, Below.refl _ _⟩
end Go.Proofs.Ytenepnbickpcjaa
