/- The walk of FnExactNormSheet. -/
import Derived.Test.YtenepnbickpcjaaNormS
import Derived.Deep.RegionHeld3
import Derived.BigRegion
namespace Go.Proofs.Ytenepnbickpcjaa
open Go.RowKit
set_option maxRecDepth 100000 in
set_option maxHeartbeats 4000000 in
theorem normLaw (sw sh : Int) (A : Option Addr) (c : Nat) (xs : List Nat) (w : World) (hA : FRd w A xs) (hn : xs.length ≤ maxLen) :
    Calls Try.prog 11 #[shv sw sh A xs.length c] w fun e w' => e = .returned (.bool true) ∧ Below w.heap.size w w' := by
  by_cases hl : xs.length ≤ 1048576
  · have S : ∀ (A : Option Addr) (c : Nat) (w : World) (hA : FRd w A xs), Calls Try.prog 35 #[shv sw sh A xs.length c] w (SheetR w (if noB sw sh xs then sw else 0) (if noB sw sh xs then sh else 0) (if noB sw sh xs then nmL (cl xs) else []) (noB sw sh xs)) := fun A c w hA => specN_any sw sh A xs c w hA hn
    have I : ∀ (A : Option Addr) (c : Nat) (w : World) (hA : FRd w A xs), Calls Try.prog 36 #[shv sw sh A xs.length c] w (SheetR w (if noB sw sh xs then sw else 0) (if noB sw sh xs then sh else 0) (if noB sw sh xs then nmL (cl xs) else []) (noB sw sh xs)) := fun A c w hA => implN_any sw sh A xs c w hA hn
    have hll : (if noB sw sh xs then nmL (cl xs) else []).length ≤ 1048576 := (by split <;> simp [nmL, cl] <;> omega)
    generalize (if noB sw sh xs then sw else 0) = fw at S I
    generalize (if noB sw sh xs then sh else 0) = fh at S I
    generalize (if noB sw sh xs then nmL (cl xs) else []) = l at S I hll
    generalize (noB sw sh xs) = ok at S I
    have aB := boxS_new w sw sh A xs.length c 30 _ rfl
    go_enter Try.func11, Try.ntmps11
    go_wp2_with fail
    refine (szSheet_few _ _ _ _ _ 1048576 _ (Nat.le_refl _) hl).mono ?_
    rintro e w1 ⟨rfl, k1⟩
    have aB := aB.below k1
    have K := Below.step (below_alloc _ _) k1
    clear k1
    obtain ⟨a_, a0, a1, a2⟩ := aB
    go_wp2_with fail
    refine (toSheet_any _ _ _ _ _ _ (Rd.below hA K) (by omega)).mono ?_
    rintro e w2 ⟨B2, c2, rfl, o2, k2⟩
    obtain ⟨a_, a0, a1, a2⟩ := (BoxS.mk a_ a0 a1 a2).below k2
    have K := Below.step K k2
    have zk2 := K.size
    clear k2
    go_wp2_with fail
    refine (S _ _ _ o2.1).mono ?_
    rintro e w3 ⟨AW, cW, xW, rfl, eW, oW, k3⟩
    have EW := Lib.hid eW
    have lW : xW.length ≤ 1048576 := by rw [← cl_len, eW]; exact hll
    have hW : ∀ b, InA AW b → w2.heap.size ≤ b ∧ b < w3.heap.size := oW.2.2
    obtain ⟨a_, a0, a1, a2⟩ := (BoxS.mk a_ a0 a1 a2).below k3
    have K := Below.step K k3
    have zk3 := k3.size
    clear k3 eW o2 S
    go_wp2_with fail
    obtain ⟨v3, hv3⟩ : ∃ v, v = w3.alloc (.cells #[.int .i64 fw, .int .i64 fh, .slice AW xW.length cW] 33) := ⟨_, rfl⟩
    have ka : Below w3.heap.size w3 v3 := by rw [hv3]; exact below_alloc _ _
    have bW : BoxS v3 w3.heap.size fw fh AW xW.length cW := by rw [hv3]; exact boxS_new _ _ _ _ _ _ _ _ rfl
    have zv3 : v3.heap.size = w3.heap.size + 1 := by rw [hv3, World.size_alloc]
    rw [← hv3]
    clear hv3
    obtain ⟨a_, a0, a1, a2⟩ := (BoxS.mk a_ a0 a1 a2).below ka
    have oW := oW.below ka
    have K := Below.step K ka
    clear ka
    try go_wp2_with fail
    refine (toSheet_any _ _ _ _ _ _ (Rd.below hA K) (by omega)).mono ?_
    rintro e w4 ⟨B4, c4, rfl, o4, k4⟩
    have h4 : ∀ b, InA B4 b → v3.heap.size ≤ b ∧ b < w4.heap.size := o4.2.2
    obtain ⟨a_, a0, a1, a2⟩ := (BoxS.mk a_ a0 a1 a2).below k4
    have bW := bW.below k4
    have oW := oW.below k4
    have K := Below.step K k4
    have zk4 := k4.size
    clear k4
    go_wp2_with fail
    obtain ⟨v4, hv4⟩ : ∃ v, v = w4.alloc (.cells #[.int .i64 sw, .int .i64 sh, .slice B4 xs.length c4] 33) := ⟨_, rfl⟩
    have ka : Below w4.heap.size w4 v4 := by rw [hv4]; exact below_alloc _ _
    have bX : BoxS v4 w4.heap.size sw sh B4 xs.length c4 := by rw [hv4]; exact boxS_new _ _ _ _ _ _ _ _ rfl
    have zv4 : v4.heap.size = w4.heap.size + 1 := by rw [hv4, World.size_alloc]
    rw [← hv4]
    clear hv4
    obtain ⟨a_, a0, a1, a2⟩ := (BoxS.mk a_ a0 a1 a2).below ka
    have bW := bW.below ka
    have oW := oW.below ka
    have o4 := o4.below ka
    have K := Below.step K ka
    clear ka
    obtain ⟨x_, x0, x1, x2⟩ := bX
    try go_wp2_with fail
    refine (I _ _ _ o4.1).mono ?_
    rintro e w5 ⟨AG, cG, xG, rfl, eG, oG, k5⟩
    have EG := Lib.hid eG
    have lG : xG.length ≤ 1048576 := by rw [← cl_len, eG]; exact hll
    have hG : ∀ b, InA AG b → v4.heap.size ≤ b ∧ b < w5.heap.size := oG.2.2
    obtain ⟨a_, a0, a1, a2⟩ := (BoxS.mk a_ a0 a1 a2).below k5
    have bX := (BoxS.mk x_ x0 x1 x2).below k5
    obtain ⟨b_, b0, b1, b2⟩ := bW.below k5
    have oW := oW.below k5
    have o4 := o4.below k5
    have K := Below.step K k5
    have zk5 := k5.size
    clear k5 eG x_ x0 x1 x2
    go_wp2_with fail
    obtain ⟨v5, hv5⟩ : ∃ v, v = w5.alloc (.cells #[.int .i64 fw, .int .i64 fh, .slice AG xG.length cG] 33) := ⟨_, rfl⟩
    have ka : Below w5.heap.size w5 v5 := by rw [hv5]; exact below_alloc _ _
    obtain ⟨g_, g0, g1, g2⟩ : BoxS v5 w5.heap.size fw fh AG xG.length cG := by rw [hv5]; exact boxS_new _ _ _ _ _ _ _ _ rfl
    have zv5 : v5.heap.size = w5.heap.size + 1 := by rw [hv5, World.size_alloc]
    rw [← hv5]
    clear hv5
    obtain ⟨a_, a0, a1, a2⟩ := (BoxS.mk a_ a0 a1 a2).below ka
    obtain ⟨x_, x0, x1, x2⟩ := bX.below ka
    obtain ⟨b_, b0, b1, b2⟩ := (BoxS.mk b_ b0 b1 b2).below ka
    have oW := oW.below ka
    have o4 := o4.below ka
    have oG := oG.below ka
    have K := Below.step K ka
    clear ka bX bW
    try go_wp2_with fail
    refine (eqSheet_ok fw fh AG AW cG cW xG xW _ oG.1 oW.1 (by unfold maxLen; omega) (by have a := EG.out; have b := EW.out; unfold cl at a b; rw [a, b])).mono ?_
    rintro e w6 ⟨rfl, k6⟩
    obtain ⟨a_, a0, a1, a2⟩ := (BoxS.mk a_ a0 a1 a2).below k6
    obtain ⟨x_, x0, x1, x2⟩ := (BoxS.mk x_ x0 x1 x2).below k6
    obtain ⟨b_, b0, b1, b2⟩ := (BoxS.mk b_ b0 b1 b2).below k6
    obtain ⟨g_, g0, g1, g2⟩ := (BoxS.mk g_ g0 g1 g2).below k6
    have oW := oW.below k6
    have o4 := o4.below k6
    have oG := oG.below k6
    have K := Below.step K k6
    have hA6 := Rd.below hA K
    clear k6
    have bW := BoxS.mk b_ b0 b1 b2
    have bG := BoxS.mk g_ g0 g1 g2
    clear b_ b0 b1 b2 g_ g0 g1 g2
    go_wp2_with fail
    go_region_held3 (fun w' => w'.cell? ⟨w.heap.size, 0, none⟩ = some (.int .i64 sw) ∧ w'.cell? ⟨w.heap.size, 1, none⟩ = some (.int .i64 sh) ∧ w'.cell? ⟨w.heap.size, 2, none⟩ = some (.slice A xs.length c) ∧ w'.cell? ⟨w4.heap.size, 0, none⟩ = some (.int .i64 sw) ∧ w'.cell? ⟨w4.heap.size, 1, none⟩ = some (.int .i64 sh) ∧ w'.cell? ⟨w4.heap.size, 2, none⟩ = some (.slice B4 xs.length c4))
      (first | (exact ⟨a0, a1, a2, x0, x1, x2⟩) | (exact s7) | (exact s8))
      (first
      | (go_at_call 18; refine (toSheet_any _ _ _ _ _ _ (by exact hA6) (by omega)).mono ?_; rintro e w7 ⟨B7, c7, rfl, o7, k7⟩; have s7 := And.intro ((k7.cell a_).trans a0) (And.intro ((k7.cell a_).trans a1) (And.intro ((k7.cell a_).trans a2) (And.intro ((k7.cell x_).trans x0) (And.intro ((k7.cell x_).trans x1) ((k7.cell x_).trans x2))))); have a7 := Nat.lt_of_lt_of_le a_ k7.size; have x7 := Nat.lt_of_lt_of_le x_ k7.size; have h7 := Rd.below (w := w6.drew) (by exact o4.1) k7; have kk7 : Below w6.heap.size w6 w7 := (Below.refl _ _).drew.trans k7; clear k7)
      | (go_at_call 20; refine (eqSheet_ok _ _ _ _ _ _ _ _ _ h7 o7.1 hn rfl).mono ?_; rintro e w8 ⟨rfl, k8⟩; have s8 := And.intro ((k8.cell a7).trans s7.1) (And.intro ((k8.cell a7).trans s7.2.1) (And.intro ((k8.cell a7).trans s7.2.2.1) (And.intro ((k8.cell x7).trans s7.2.2.2.1) (And.intro ((k8.cell x7).trans s7.2.2.2.2.1) ((k8.cell x7).trans s7.2.2.2.2.2))))); have kk8 : Below w6.heap.size w6 w8 := Below.step kk7 k8; clear k8))
    obtain ⟨a0, a1, a2, x0, x1, x2⟩ := s8
    have a_ := Nat.lt_of_lt_of_le a_ kk8.size
    have x_ := Nat.lt_of_lt_of_le x_ kk8.size
    obtain ⟨b_, b0, b1, b2⟩ := bW.below kk8
    obtain ⟨g_, g0, g1, g2⟩ := bG.below kk8
    have oW := oW.below kk8
    have o4 := o4.below kk8
    have oG := oG.below kk8
    have K := Below.step K kk8
    clear kk7 kk8 s7 a7 x7 h7 o7 hA6 bW bG
    go_wp2_with fail
    refine (markSheet_any sw sh B4 xs.length c4 _ 1 rfl _ (by have := o4.2.1; simpa using this) (fun b h => (o4.2.2 b h).2) (by omega) (by omega)).mono ?_
    rintro e w9 ⟨rfl, k9, _⟩
    obtain ⟨a_, a0, a1, a2⟩ := (BoxS.mk a_ a0 a1 a2).keep k9 (fun h => by have := (h4 _ h).1; omega)
    obtain ⟨b_, b0, b1, b2⟩ := (BoxS.mk b_ b0 b1 b2).keep k9 (fun h => by have := (h4 _ h).1; omega)
    obtain ⟨g_, g0, g1, g2⟩ := (BoxS.mk g_ g0 g1 g2).keep k9 (fun h => by have := (h4 _ h).2; omega)
    have oW := oW.keep k9 (fun b h e => by have := (hW b h).2; have := (h4 b e).1; omega)
    have oG := oG.keep k9 (fun b h e => by have := (hG b h).1; have := (h4 b e).2; omega)
    have K := k9.below K (by have := K.size; omega) (fun k h => by have := (h4 _ h).1; omega)
    clear k9 o4 x_ x0 x1 x2
    go_wp2_with fail
    refine (eqSheet_ok fw fh AG AW cG cW xG xW _ oG.1 oW.1 (by unfold maxLen; omega) (by have a := EG.out; have b := EW.out; unfold cl at a b; rw [a, b])).mono ?_
    rintro e w10 ⟨rfl, k10⟩
    obtain ⟨a_, a0, a1, a2⟩ := (BoxS.mk a_ a0 a1 a2).below k10
    obtain ⟨b_, b0, b1, b2⟩ := (BoxS.mk b_ b0 b1 b2).below k10
    obtain ⟨g_, g0, g1, g2⟩ := (BoxS.mk g_ g0 g1 g2).below k10
    have oW := oW.below k10
    have oG := oG.below k10
    have K := Below.step K k10
    clear k10
    go_wp2_with fail
    refine (markSheet_any fw fh AG xG.length cG _ 1 rfl _ (by have := oG.2.1; simpa using this) (fun b h => (oG.2.2 b h).2) (by omega) (by omega)).mono ?_
    rintro e w11 ⟨rfl, k11, m11⟩
    obtain ⟨a_, a0, a1, a2⟩ := (BoxS.mk a_ a0 a1 a2).keep k11 (fun h => by have := (hG _ h).1; omega)
    obtain ⟨b_, b0, b1, b2⟩ := (BoxS.mk b_ b0 b1 b2).keep k11 (fun h => by have := (hG _ h).1; omega)
    obtain ⟨g_, g0, g1, g2⟩ := (BoxS.mk g_ g0 g1 g2).keep k11 (fun h => by have := (hG _ h).2; omega)
    have oW := oW.keep k11 (fun b h e => by have := (hW b h).2; have := (hG b e).1; omega)
    have K := k11.below K (by have := K.size; omega) (fun k h => by have := (hG _ h).1; omega)
    clear k11 oG
    go_wp2_with fail
    refine (heldSheet_ok fw fh AG xG.length cG _ 1 rfl _ m11 (by omega) (by omega)).mono ?_
    rintro e w12 ⟨rfl, k12⟩
    obtain ⟨a_, a0, a1, a2⟩ := (BoxS.mk a_ a0 a1 a2).below k12
    obtain ⟨b_, b0, b1, b2⟩ := (BoxS.mk b_ b0 b1 b2).below k12
    obtain ⟨g_, g0, g1, g2⟩ := (BoxS.mk g_ g0 g1 g2).below k12
    have oW := oW.below k12
    have m12 := Rd.below m11 k12
    have K := Below.step K k12
    clear k12 m11
    go_wp2_with fail
    refine (toSheet_any _ _ _ _ _ _ (Rd.below hA K) (by omega)).mono ?_
    rintro e w13 ⟨B6, c6, rfl, o6, k13⟩
    have bW := (BoxS.mk b_ b0 b1 b2).below k13
    have bG := (BoxS.mk g_ g0 g1 g2).below k13
    have oW := oW.below k13
    have m13 := Rd.below m12 k13
    have K := Below.step K k13
    clear k13 m12 b_ b0 b1 b2 g_ g0 g1 g2 a_ a0 a1 a2
    go_wp2_with fail
    refine (I _ _ _ o6.1).mono ?_
    rintro e w14 ⟨AH, cH, xH, rfl, eH, oH, k14⟩
    have EH := Lib.hid eH
    have lH : xH.length ≤ 1048576 := by rw [← cl_len, eH]; exact hll
    obtain ⟨b_, b0, b1, b2⟩ := bW.below k14
    obtain ⟨g_, g0, g1, g2⟩ := bG.below k14
    have oW := oW.below k14
    have m14 := Rd.below m13 k14
    have K := Below.step K k14
    clear k14 m13 o6 I eH
    go_wp2_with fail
    obtain ⟨v14, hv14⟩ : ∃ v, v = w14.alloc (.cells #[.int .i64 fw, .int .i64 fh, .slice AH xH.length cH] 33) := ⟨_, rfl⟩
    have ka : Below w14.heap.size w14 v14 := by rw [hv14]; exact below_alloc _ _
    rw [← hv14]
    clear hv14
    obtain ⟨b_, b0, b1, b2⟩ := (BoxS.mk b_ b0 b1 b2).below ka
    obtain ⟨g_, g0, g1, g2⟩ := (BoxS.mk g_ g0 g1 g2).below ka
    have oW := oW.below ka
    have oH := oH.below ka
    have m14 := Rd.below m14 ka
    have K := Below.step K ka
    clear ka bW bG
    try go_wp2_with fail
    refine (eqSheet_ok fw fh AH AW cH cW xH xW _ oH.1 oW.1 (by unfold maxLen; omega) (by have a := EH.out; have b := EW.out; unfold cl at a b; rw [a, b])).mono ?_
    rintro e w15 ⟨rfl, k15⟩
    obtain ⟨g_, g0, g1, g2⟩ := (BoxS.mk g_ g0 g1 g2).below k15
    have m15 := Rd.below m14 k15
    have K := Below.step K k15
    clear k15 m14 oW oH b_ b0 b1 b2
    go_wp2_with fail
    refine (heldSheet_ok fw fh AG xG.length cG _ 1 rfl _ m15 (by omega) (by omega)).mono ?_
    rintro e w16 ⟨rfl, k16⟩
    have K := Below.step K k16
    clear k16
    go_wp2
    go_ret
    exact ⟨rfl, K⟩
  · go_enter Try.func11, Try.ntmps11
    go_wp2_with fail
    refine (szSheet_many _ _ _ _ _ 1048576 _ (Nat.le_refl _) (by omega) hn).mono ?_
    rintro e w1 ⟨rfl, k1⟩
    go_wp2
    go_ret
    exact ⟨rfl, Below.step (below_alloc _ _) k1⟩
end Go.Proofs.Ytenepnbickpcjaa
