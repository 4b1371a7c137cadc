/- SlopeOf: where there is none, and the law's walk. -/
import Derived.Test.YtcdademaamoboaaSlope
namespace Go.Proofs.Ytcdademaamoboaa
open Go.RowKit

theorem implSlope_no (A B : Option Addr) (c c' : Nat) (xs ys : List Nat) (w : World) (hA : FRd w A xs) (hB : FRd w B ys) (hm1 : xs.length ≤ maxLen) (hm2 : ys.length ≤ maxLen) (h : slGood xs ys = false) :
    Calls Try.prog 34 #[.slice A xs.length c, .slice B ys.length c'] w (Sl3 w (cn .f32 0) (cn .f32 0) false) := by
  cases hx : lstB xs
  · clear h
    go_enter Try.func34, Try.ntmps34
    go_wp2_with fail
    refine (isList_any _ _ _ _ hA hm1).mono ?_
    rintro e w1 ⟨rfl, n1, rfl⟩
    rw [hx]
    go_wp2_with fail
    go_ret3
    exact ⟨_, _, _, rfl, rfl, rfl, rfl⟩
  · cases hy : lstB ys
    · clear h
      go_enter Try.func34, Try.ntmps34
      go_wp2_with fail
      refine (isList_any _ _ _ _ hA hm1).mono ?_
      rintro e w1 ⟨rfl, n1, rfl⟩
      rw [hx]
      go_wp2_with fail
      refine (isList_any _ _ _ (w.drewN n1) hB hm2).mono ?_
      rintro e w1 ⟨rfl, n2, rfl⟩
      rw [hy]
      go_wp2_with fail
      go_ret3
      exact ⟨_, _, _, rfl, rfl, rfl, rfl⟩
    · by_cases hl : xs.length = ys.length
      · have hne : ((xs.length : Int) != ys.length) = false := by rw [bne_eq_false_iff_eq]; omega
        have hd2 : decide ((xs.length : Int) < 2) = true := by
          simp [slGood, hx, hy, hl] at h
          simp; omega
        clear hl h
        go_enter Try.func34, Try.ntmps34
        go_wp2_with fail
        refine (isList_any _ _ _ _ hA hm1).mono ?_
        rintro e w1 ⟨rfl, n1, rfl⟩
        rw [hx]
        go_wp2_with fail
        refine (isList_any _ _ _ (w.drewN n1) hB hm2).mono ?_
        rintro e w1 ⟨rfl, n2, rfl⟩
        rw [hy]
        go_wp2_with fail
        go_ret3
        exact ⟨_, _, _, rfl, rfl, rfl, rfl⟩
      · have hne : ((xs.length : Int) != ys.length) = true := by rw [bne_iff_ne]; omega
        clear hl h
        go_enter Try.func34, Try.ntmps34
        go_wp2_with fail
        refine (isList_any _ _ _ _ hA hm1).mono ?_
        rintro e w1 ⟨rfl, n1, rfl⟩
        rw [hx]
        go_wp2_with fail
        refine (isList_any _ _ _ (w.drewN n1) hB hm2).mono ?_
        rintro e w1 ⟨rfl, n2, rfl⟩
        rw [hy]
        go_wp2_with fail
        go_ret3
        exact ⟨_, _, _, rfl, rfl, rfl, rfl⟩

theorem slope_both (xs ys : List Nat) (hm1 : xs.length ≤ maxLen) (hm2 : ys.length ≤ maxLen) :
    ∃ X Y ok, ∀ (A B : Option Addr) (c c' : Nat) w, FRd w A xs → FRd w B ys → Calls Try.prog 33 #[.slice A xs.length c, .slice B ys.length c'] w (Sl3 w X Y ok) ∧ Calls Try.prog 34 #[.slice A xs.length c, .slice B ys.length c'] w (Sl3 w X Y ok) := by
  cases h : slGood xs ys
  · exact ⟨_, _, _, fun A B c c' w hA hB => ⟨specSlope_of _ _ _ _ _ _ _ _ _ _ (l06Slope_no A B c c' xs ys w hA hB hm1 hm2 h), implSlope_no A B c c' xs ys w hA hB hm1 hm2 h⟩⟩
  · simp [slGood] at h
    obtain ⟨⟨⟨hx, hy⟩, hl⟩, h2⟩ := h
    have h256 : xs.length ≤ 256 := by
      have := hx
      unfold lstB at this
      simp at this
      exact this.1
    exact ⟨_, _, _, fun A B c c' w hA hB => ⟨specSlope_of _ _ _ _ _ _ _ _ _ _ (l06Slope_yes A B c c' xs ys w hA hB hx hy h256 h2 (by omega) (by omega)), implSlope_yes A B c c' xs ys w hA hB hx hy h256 h2 (by omega) (by omega)⟩⟩

set_option maxHeartbeats 2000000 in
theorem slopeLaw (A B : Option Addr) (c c' : Nat) (xs ys : List Nat) (w : World) (hA : FRd w A xs) (hn : xs.length ≤ maxLen) (hB : FRd w B ys) (hn2 : ys.length ≤ maxLen) :
    Calls Try.prog 10 #[.slice A xs.length c, .slice B ys.length c'] w fun e w' => e = .returned (.bool true) ∧ Below w.heap.size w w' := by
  obtain ⟨X, Y, ok, hb⟩ := slope_both xs ys hn hn2
  have HB := Lib.hid hb
  clear hb
  by_cases hl : xs.length ≤ 1048576
  · by_cases hl2 : ys.length ≤ 1048576
    · have hd : decide ((1048576 : Int) < xs.length) = false := by simp; omega
      have hd2 : decide ((1048576 : Int) < ys.length) = false := by simp; omega
      go_enter Try.func10, Try.ntmps10
      go_wp2_with fail
      refine (toF32_any _ _ _ _ hA (by omega)).mono ?_
      rintro e w1 ⟨B1, c1, rfl, o1, k1⟩
      have hB1 := Rd.below hB k1
      have hA1 := Rd.below hA k1
      go_wp2_with fail
      refine (toF32_any _ _ _ w1 hB1 (by omega)).mono ?_
      rintro e w2 ⟨B2, c2, rfl, o2, k2⟩
      have hB2 := Rd.below hB1 k2
      have hA2 := Rd.below hA1 k2
      have o1 := o1.below k2
      have K2 := Below.step k1 k2
      clear k1 k2 hA1 hB1
      go_wp2_with fail
      refine (HB.out _ _ _ _ _ o1.1 o2.1).1.mono ?_
      rintro e w3 ⟨s1, s2, n3, rfl, hx, hy, rfl⟩
      have HX := Lib.hid hx
      have HY := Lib.hid hy
      clear hx hy o1 o2
      go_wp2_with fail
      refine (toF32_any _ _ _ (w2.drewN n3) hA2 (by omega)).mono ?_
      rintro e w4 ⟨B4, c4, rfl, o4, k4⟩
      have hB4 := Rd.below (Rd.drewN hB2 n3) k4
      have hA4 := Rd.below (Rd.drewN hA2 n3) k4
      have K4 := Below.step (below_drewN K2 n3) k4
      clear k4 K2 hA2 hB2
      go_wp2_with fail
      refine (toF32_any _ _ _ w4 hB4 (by omega)).mono ?_
      rintro e w5 ⟨B5, c5, rfl, o5, k5⟩
      have hB5 := Rd.below hB4 k5
      have hA5 := Rd.below hA4 k5
      have o4 := o4.below k5
      have K5 := Below.step K4 k5
      clear k5 K4 hA4 hB4
      go_wp2_with fail
      refine (HB.out _ _ _ _ _ o4.1 o5.1).2.mono ?_
      rintro e w6 ⟨t1, t2, n6, rfl, hx, hy, rfl⟩
      have HX' := Lib.hid hx
      have HY' := Lib.hid hy
      clear hx hy HB
      go_wp2_with fail
      refine (sameFloat_ok _ _ (by rw [cn_wres, cn_wres, HX.out, HX'.out]) _).mono ?_
      rintro e w7 ⟨rfl, n7, rfl⟩
      go_wp2_with fail
      refine (sameFloat_ok _ _ (by rw [cn_wres, cn_wres, HY.out, HY'.out]) _).mono ?_
      rintro e w8 ⟨rfl, n8, rfl⟩
      go_wp2_with fail
      refine (toF32_any _ _ _ _ (Rd.drewN hA5 _) (by omega)).mono ?_
      rintro e w9 ⟨B9, c9, rfl, o9, k9⟩
      have h4 : FRd w9 B4 xs := Rd.below (Rd.drewN o4.1 _) k9
      have h5 : FRd w9 B5 ys := Rd.below (Rd.drewN o5.1 _) k9
      have hB9 : FRd w9 B ys := Rd.below (Rd.drewN hB5 _) k9
      have K9 := Below.step (below_drewN K5 _) k9
      clear k9 K5 hA5 hB5 o4 o5
      go_wp2_with fail
      refine (eqF32_ok _ _ _ _ _ _ _ h4 o9.1 hn rfl).mono ?_
      rintro e w10 ⟨rfl, n10, rfl⟩
      go_wp2_with fail
      refine (toF32_any _ _ _ _ (Rd.drewN hB9 _) (by omega)).mono ?_
      rintro e w11 ⟨B11, c11, rfl, o11, k11⟩
      have h11 : FRd w11 B5 ys := Rd.below (Rd.drewN h5 _) k11
      have K11 := Below.step (below_drewN K9 _) k11
      clear k11 K9
      go_wp2_with fail
      refine (eqF32_ok _ _ _ _ _ _ _ h11 o11.1 hn2 rfl).mono ?_
      rintro e w12 ⟨rfl, n12, rfl⟩
      go_wp2
      go_ret
      exact ⟨rfl, below_drewN K11 _⟩
    · have hd : decide ((1048576 : Int) < xs.length) = false := by simp; omega
      have hd2 : decide ((1048576 : Int) < ys.length) = true := by simp; omega
      go_enter Try.func10, Try.ntmps10
      go_wp2_with fail
      go_ret
      exact ⟨rfl, Below.refl _ _⟩
  · have hd : decide ((1048576 : Int) < xs.length) = true := by simp; omega
    go_enter Try.func10, Try.ntmps10
    go_wp2_with fail
    go_ret
    exact ⟨rfl, Below.refl _ _⟩
end Go.Proofs.Ytcdademaamoboaa
