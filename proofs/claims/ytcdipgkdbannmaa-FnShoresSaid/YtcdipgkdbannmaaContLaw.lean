/- The walk of FnExactContourOf. -/
import Derived.Test.YtcdipgkdbannmaaC64M
import Derived.Test.YtcdipgkdbannmaaBoxT
import Derived.Deep.RegionHeld3
import Derived.BigRegion
namespace Go.Proofs.Ytcdipgkdbannmaa
open Go.RowKit
set_option maxRecDepth 100000 in
set_option maxHeartbeats 2000000 in
theorem contLaw (sw sh : Int) (A : Option Addr) (c : Nat) (xs : List Nat) (lev : Nat) (w : World) (hA : FRd w A xs) (hn : xs.length ≤ maxLen) :
    Calls Try.prog 5 #[shv sw sh A xs.length c, .float .f32 lev] w fun e w' => e = .returned (.bool true) ∧ Below w.heap.size w w' := by
  by_cases hl : xs.length ≤ 1048576
  · have S := fun (A : Option Addr) (c : Nat) (w : World) (hA : FRd w A xs) => specCt_any sw sh A c xs lev w hA hn
    have I := fun (A : Option Addr) (c : Nat) (w : World) (hA : FRd w A xs) => implCt_any sw sh A c xs lev w hA hn
    have hcl := conL_len sw sh xs lev
    generalize conL sw sh xs lev = l at S I hcl
    generalize conB sw sh xs lev = ok at S I
    go_enter Try.func5, Try.ntmps5
    go_wp2_with fail
    refine (szSheet_few _ _ _ _ _ 1048576 _ (Nat.le_refl _) hl).mono ?_
    rintro e w1 ⟨rfl, k1⟩
    have z1 : w.heap.size < w1.heap.size := by have := k1.size; simp at this; omega
    have a0 : w1.cell? ⟨w.heap.size, 0, none⟩ = some (.int .i64 sw) := (k1.cell (by simp)).trans (by simp)
    have a1 : w1.cell? ⟨w.heap.size, 1, none⟩ = some (.int .i64 sh) := (k1.cell (by simp)).trans (by simp)
    have a2 : w1.cell? ⟨w.heap.size, 2, none⟩ = some (.slice A xs.length c) := (k1.cell (by simp)).trans (by simp)
    have hA1 := (Rd.below hA (below_alloc _ _)).below k1
    have K1 := Below.step (below_alloc _ _) k1
    clear k1
    go_wp2_with fail
    refine (toSheet_any _ _ _ _ _ _ hA1 (by omega)).mono ?_
    rintro e w2 ⟨B2, c2, rfl, o2, k2⟩
    have z2 : w.heap.size < w2.heap.size := Nat.lt_of_lt_of_le z1 k2.size
    have a0 := (k2.cell z1).trans a0
    have a1 := (k2.cell z1).trans a1
    have a2 := (k2.cell z1).trans a2
    have hA2 := Rd.below hA1 k2
    have K2 := Below.step K1 k2
    clear k2 K1 hA1
    go_wp2_with fail
    refine (S _ _ _ o2.1).mono ?_
    rintro e w3 ⟨AW, cW, PW, rfl, oW, eW, k3⟩
    have EW := Lib.hid eW
    have lW : PW.length ≤ 600 := by rw [← cp_len, eW]; exact hcl
    have z3 : w.heap.size < w3.heap.size := Nat.lt_of_lt_of_le z2 k3.size
    have a0 := (k3.cell z2).trans a0
    have a1 := (k3.cell z2).trans a1
    have a2 := (k3.cell z2).trans a2
    have hA3 := Rd.below hA2 k3
    have K3 := Below.step K2 k3
    clear k3 K2 hA2 o2 eW
    go_wp2_with fail
    refine (toSheet_any _ _ _ _ _ _ hA3 (by omega)).mono ?_
    rintro e w4 ⟨B4, c4, rfl, o4, k4⟩
    have z4 : w.heap.size < w4.heap.size := Nat.lt_of_lt_of_le z3 k4.size
    have z34 := k4.size
    have a0 := (k4.cell z3).trans a0
    have a1 := (k4.cell z3).trans a1
    have a2 := (k4.cell z3).trans a2
    have hA4 := Rd.below hA3 k4
    have K4 := Below.step K3 k4
    have hW : ∀ b, InA AW b → b < w3.heap.size := fun b h => (oW.2.2 b h).2
    have h4w : ∀ b, InA B4 b → w3.heap.size ≤ b ∧ b < w4.heap.size := o4.2.2
    have oW := oW.below k4
    clear k4 K3 hA3
    go_wp2_with fail
    obtain ⟨wb, hwb⟩ : ∃ wb, wb = w4.alloc (.cells #[.int .i64 sw, .int .i64 sh, .slice B4 xs.length c4] 29) := ⟨_, rfl⟩
    have zb : wb.heap.size = w4.heap.size + 1 := by rw [hwb]; simp
    have kb : Below w4.heap.size w4 wb := by rw [hwb]; exact below_alloc _ _
    have bx : BoxS wb w4.heap.size sw sh B4 xs.length c4 := by rw [hwb]; exact boxS_new _ _ _ _ _ _ _ _ rfl
    rw [← hwb]
    clear hwb
    refine (I _ _ _ (Rd.below o4.1 kb)).mono ?_
    rintro e w8 ⟨AG, cG, PG, rfl, oG, eG, k5⟩
    have EG := Lib.hid eG
    have lG : PG.length ≤ 600 := by rw [← cp_len, eG]; exact hcl
    have hG : ∀ b, InA AG b → wb.heap.size ≤ b ∧ b < w8.heap.size := oG.2.2
    have k5' := Below.step kb k5
    have y8 : w4.heap.size < w8.heap.size := by have := k5.size; omega
    have bx := bx.below k5
    have a0 := (k5'.cell z4).trans a0
    have a1 := (k5'.cell z4).trans a1
    have a2 := (k5'.cell z4).trans a2
    have hA8 := Rd.below hA4 k5'
    have h8 := o4.below k5'
    have K8 := Below.step K4 k5'
    have oW := oW.below k5'
    clear k5 k5' K4 hA4 o4 S kb eG
    go_wp2_with fail
    refine (eqC_ok AG AW cG cW PG PW _ oG.1 oW.1 (by unfold maxLen; omega) (by rw [EG.out, EW.out])).mono ?_
    rintro e w9 ⟨rfl, m9, hw9⟩
    obtain ⟨x_, x0, x1, x2⟩ : BoxS w9 w4.heap.size sw sh B4 xs.length c4 := by rw [hw9]; exact bx.drewN _
    have a0 : w9.cell? ⟨w.heap.size, 0, none⟩ = some (.int .i64 sw) := by rw [hw9]; exact a0
    have a1 : w9.cell? ⟨w.heap.size, 1, none⟩ = some (.int .i64 sh) := by rw [hw9]; exact a1
    have a2 : w9.cell? ⟨w.heap.size, 2, none⟩ = some (.slice A xs.length c) := by rw [hw9]; exact a2
    have hA9 : FRd w9 A xs := by rw [hw9]; exact hA8
    have h9 : OwnS w3.heap.size w9 B4 (xs.map fv) := by rw [hw9]; exact h8.drewN _
    have K9 : Below w.heap.size w w9 := by rw [hw9]; exact below_drewN K8 _
    have oG9 : OwnS wb.heap.size w9 AG (PG.map cv) := by rw [hw9]; exact oG.drewN _
    have oW9 : OwnS w2.heap.size w9 AW (PW.map cv) := by rw [hw9]; exact oW.drewN _
    have z9 : w.heap.size < w9.heap.size := by omega
    clear hw9 hA8 h8 K8 oG oW bx y8
    go_wp2_with fail
    go_region_held3 (fun w' => w'.cell? ⟨w.heap.size, 0, none⟩ = some (.int .i64 sw) ∧ w'.cell? ⟨w.heap.size, 1, none⟩ = some (.int .i64 sh) ∧ w'.cell? ⟨w.heap.size, 2, none⟩ = some (.slice A xs.length c) ∧ w'.cell? ⟨w4.heap.size, 0, none⟩ = some (.int .i64 sw) ∧ w'.cell? ⟨w4.heap.size, 1, none⟩ = some (.int .i64 sh) ∧ w'.cell? ⟨w4.heap.size, 2, none⟩ = some (.slice B4 xs.length c4))
      (first | (exact ⟨a0, a1, a2, x0, x1, x2⟩) | (exact s10) | (exact s11))
      (first
      | (go_at_call 11; refine (toSheet_any _ _ _ _ _ _ (by exact hA9) (by omega)).mono ?_; rintro e w10 ⟨B10, c10, rfl, o10, k10⟩; have s10 := And.intro ((k10.cell z9).trans a0) (And.intro ((k10.cell z9).trans a1) (And.intro ((k10.cell z9).trans a2) (And.intro ((k10.cell x_).trans x0) (And.intro ((k10.cell x_).trans x1) ((k10.cell x_).trans x2))))); have z10 := Nat.lt_of_lt_of_le z9 k10.size; have x10 := Nat.lt_of_lt_of_le x_ k10.size; have h10 := Rd.below (w := w9.drew) (by exact h9.1) k10; have kk10 : Below w9.heap.size w9 w10 := (Below.refl _ _).drew.trans k10; clear k10)
      | (go_at_call 14; refine (eqSheet_ok _ _ _ _ _ _ _ _ _ h10 o10.1 hn rfl).mono ?_; rintro e w11 ⟨rfl, k11⟩; have s11 := And.intro ((k11.cell z10).trans s10.1) (And.intro ((k11.cell z10).trans s10.2.1) (And.intro ((k11.cell z10).trans s10.2.2.1) (And.intro ((k11.cell x10).trans s10.2.2.2.1) (And.intro ((k11.cell x10).trans s10.2.2.2.2.1) ((k11.cell x10).trans s10.2.2.2.2.2))))); have kk11 : Below w9.heap.size w9 w11 := Below.step kk10 k11; clear k11))
    obtain ⟨a0, a1, a2, x0, x1, x2⟩ := s11
    have o11 := h9.below kk11
    have oG11 := oG9.below kk11
    have oW11 := oW9.below kk11
    have K11 := Below.step K9 kk11
    have z11 : w4.heap.size < w11.heap.size := Nat.lt_of_lt_of_le x_ kk11.size
    clear kk11 kk10 h9 oG9 oW9 K9 hA9 s10 h10 o10 x_ z9 z10 x10
    go_wp2_with fail
    refine (markSheet_any sw sh B4 xs.length c4 _ 1 rfl _ (by have := o11.2.1; simpa using this) (fun b h => (o11.2.2 b h).2) (by omega) (by omega)).mono ?_
    rintro e w12 ⟨rfl, k12, _⟩
    have z12 := k12.size
    have a0 := (k12.cell (p := ⟨w.heap.size, 0, none⟩) (by show w.heap.size < _; omega) (fun h => by have h2 : w3.heap.size ≤ w.heap.size := (h4w _ h).1; omega)).trans a0
    have a1 := (k12.cell (p := ⟨w.heap.size, 1, none⟩) (by show w.heap.size < _; omega) (fun h => by have h2 : w3.heap.size ≤ w.heap.size := (h4w _ h).1; omega)).trans a1
    have a2 := (k12.cell (p := ⟨w.heap.size, 2, none⟩) (by show w.heap.size < _; omega) (fun h => by have h2 : w3.heap.size ≤ w.heap.size := (h4w _ h).1; omega)).trans a2
    have oG12 := oG11.keep k12 (fun b h e => by have := (hG _ h).1; have := (h4w _ e).2; omega)
    have oW12 := oW11.keep k12 (fun b h e => by have := hW _ h; have := (h4w _ e).1; omega)
    have K12 := k12.below K11 (by omega) (fun k h => by have := (h4w _ h).1; omega)
    clear k12 oG11 oW11 K11 o11
    go_wp2_with fail
    refine (eqC_ok AG AW cG cW PG PW _ oG12.1 oW12.1 (by unfold maxLen; omega) (by rw [EG.out, EW.out])).mono ?_
    rintro e w13 ⟨rfl, m13, hw13⟩
    have a0 : w13.cell? ⟨w.heap.size, 0, none⟩ = some (.int .i64 sw) := by rw [hw13]; exact a0
    have a1 : w13.cell? ⟨w.heap.size, 1, none⟩ = some (.int .i64 sh) := by rw [hw13]; exact a1
    have a2 : w13.cell? ⟨w.heap.size, 2, none⟩ = some (.slice A xs.length c) := by rw [hw13]; exact a2
    have K13 : Below w.heap.size w w13 := by rw [hw13]; exact below_drewN K12 _
    have oG13 : OwnS wb.heap.size w13 AG (PG.map cv) := by rw [hw13]; exact oG12.drewN _
    have oW13 : OwnS w2.heap.size w13 AW (PW.map cv) := by rw [hw13]; exact oW12.drewN _
    have z13 : w12.heap.size = w13.heap.size := by rw [hw13]; rfl
    clear hw13 oG12 oW12 K12
    go_wp2_with fail
    refine (markC_any AG PG.length cG _ 1 rfl _ (by have := oG13.2.1; simpa using this) (by omega)).mono ?_
    rintro e w14 ⟨rfl, k14, m14⟩
    have z14 := k14.size
    have a0 := (k14.cell (p := ⟨w.heap.size, 0, none⟩) (by show w.heap.size < _; omega) (fun h => by have h2 : wb.heap.size ≤ w.heap.size := (hG _ h).1; omega)).trans a0
    have a1 := (k14.cell (p := ⟨w.heap.size, 1, none⟩) (by show w.heap.size < _; omega) (fun h => by have h2 : wb.heap.size ≤ w.heap.size := (hG _ h).1; omega)).trans a1
    have a2 := (k14.cell (p := ⟨w.heap.size, 2, none⟩) (by show w.heap.size < _; omega) (fun h => by have h2 : wb.heap.size ≤ w.heap.size := (hG _ h).1; omega)).trans a2
    have oW14 := oW13.keep k14 (fun b h e => by have := hW _ h; have := (hG _ e).1; omega)
    have K14 := k14.below K13 (by omega) (fun k h => by have := (hG _ h).1; omega)
    clear k14 oG13 oW13 K13
    go_wp2_with fail
    refine (heldC_ok AG PG.length cG _ 1 rfl _ m14 (by omega)).mono ?_
    rintro e w15 ⟨rfl, rfl⟩
    have hA14 := Rd.below hA K14
    go_wp2_with fail
    refine (toSheet_any _ _ _ _ _ _ hA14 (by omega)).mono ?_
    rintro e w16 ⟨B6, c6, rfl, o6, k6⟩
    have oW16 := oW14.below k6
    have m16 := Rd.below m14 k6
    have K16 := Below.step K14 k6
    clear k6 oW14 m14 K14 hA14 a0 a1 a2
    go_wp2_with fail
    refine (I _ _ _ o6.1).mono ?_
    rintro e w17 ⟨AH, cH, PH, rfl, oH, eH, k7⟩
    have EH := Lib.hid eH
    have lH : PH.length ≤ 600 := by rw [← cp_len, eH]; exact hcl
    have oW17 := oW16.below k7
    have m17 := Rd.below m16 k7
    have K17 := Below.step K16 k7
    clear k7 oW16 m16 K16 o6 I eH
    go_wp2_with fail
    refine (eqC_ok AH AW cH cW PH PW _ oH.1 oW17.1 (by unfold maxLen; omega) (by rw [EH.out, EW.out])).mono ?_
    rintro e w18 ⟨rfl, m18, hw18⟩
    have m18' : CRd w18 AG (cmarks 1 PG.length) := by rw [hw18]; exact m17
    have K18 : Below w.heap.size w w18 := by rw [hw18]; exact below_drewN K17 _
    clear hw18 oW17 oH m17 K17
    go_wp2_with fail
    refine (heldC_ok AG PG.length cG _ 1 rfl _ m18' (by omega)).mono ?_
    rintro e w19 ⟨rfl, rfl⟩
    go_wp2
    go_ret
    exact ⟨rfl, K18⟩
  · go_enter Try.func5, Try.ntmps5
    go_wp2_with fail
    refine (szSheet_many _ _ _ _ _ 1048576 _ (Nat.le_refl _) (by omega) hn).mono ?_
    rintro e w1 ⟨rfl, k1⟩
    go_wp2
    go_ret
    exact ⟨rfl, Below.step (below_alloc _ _) k1⟩
end Go.Proofs.Ytcdipgkdbannmaa
