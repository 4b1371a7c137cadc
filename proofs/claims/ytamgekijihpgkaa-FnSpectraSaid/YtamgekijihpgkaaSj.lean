/- SpectrumLine, the reference's side. -/
import Derived.Test.YtamgekijihpgkaaSi
namespace Go.Proofs.Ytamgekijihpgkaa
open Go.RowKit Ieee

set_option maxRecDepth 100000 in
set_option maxHeartbeats 4000000 in
theorem specSp_yes (n : Nat) (slope : Nat) (seed : Int) (w1 : World) (c0 : 2 ≤ n) (c1 : n ≤ 64) (g1 : (ford .f32 (cn .f32 slope) (cn .f32 0) == some .gt || ford .f32 (cn .f32 slope) (cn .f32 0) == some .eq) = true) (g2 : (ford .f32 (cn .f32 slope) (cn .f32 1090519040) == some .lt || ford .f32 (cn .f32 slope) (cn .f32 1090519040) == some .eq) = true) (s0 : 0 ≤ seed) (s1 : seed ≤ 2147483647) :
    Calls Try.prog 8 #[.int .i64 n, .float .f32 slope, .int .i64 seed] w1 (SpO w1 ((List.range n).map (fun i => oF slope seed n ((n - 1) / 2) i)) (sd seed ((n - 1) / 2)) true) := by
  have hsg := slope_sg g1 g2
  have hmk := make_f32 n c1
  have HS := Lib.hid hsg
  have hnn : isN .f64 (floatOfInt .f64 (n : Int)) = false := (upSm (int_up (n := (n : Int)) (by omega) (by omega)) (by decide) (by decide)).num
  have HNN := Lib.hid hnn
  clear hsg hnn
  go_enter Try.func8, Try.ntmps8
  go_wp2_with fail
  refine (in_any _ _ _ _).mono ?_
  rintro e w' ⟨rfl, rfl⟩
  go_wp2_with fail
  refine (l05Seed_any _ _).mono ?_
  rintro e w' ⟨rfl, rfl⟩
  have I0 := spi_start (w1 := w1) (n := n) (slope := slope) (seed := seed)
  go_wp2
  obtain ⟨w2, hw2⟩ : ∃ w2, w2 = w1.alloc (.cells (madeCells #[.float .f32 0] n) 25) := ⟨_, rfl⟩
  rw [← hw2] at I0 ⊢
  clear hw2 hmk g1 g2
  go_loopw [2, 10] (fun sv kv wr => ∃ (K kk : Nat) (ys : List Nat), kv = .int .i64 kk ∧ Hid (kk = K + 1) ∧ 1 ≤ kk ∧ kk ≤ (n - 1) / 2 + 1 ∧ sv = .int .i64 (sd seed K) ∧ SpI w1 (some ⟨w1.heap.size, 0, none⟩) ys n slope seed K 0 wr) (fun _ kv _ => 100 - (intOf kv).toNat)
  case atStart => exact ⟨0, 1, _, rfl, Lib.hid rfl, by omega, by omega, rfl, I0⟩
  case round =>
    clear I0
    obtain ⟨K, kk, ys, rfl, HK, hk1, hk2, rfl, I⟩ := hrel
    obtain ⟨d0, d1⟩ := sd_bd s0 s1 K
    by_cases hlt : kk ≤ (n - 1) / 2
    · have hkk := HK.out
      have hS : Hid (nextI (sd seed K) = sd seed kk) := Lib.hid (by rw [hkk]; rfl)
      obtain ⟨t0', t1'⟩ := sd_bd s0 s1 kk
      obtain ⟨l1, l2, _⟩ := lg_tab kk (by omega) hk1
      have W := wgt HS.out (k := kk) (by omega) hk1
      have r1 := W.m1.res
      have e1 := W.m1.dr
      have r2 := W.m2.res
      have e2 := W.m2.dr
      have E : ExF (Op.negFloat .f32 (fop .mul .f32 (fop .mul .f32 1056964608 slope) (lg kk))) := W.ex
      have HW : Hid (exN (Op.negFloat .f32 (fop .mul .f32 (fop .mul .f32 1056964608 slope) (lg kk))) = wv slope kk) := Lib.hid rfl
      have HE := Lib.hid E
      have hln : isN .f32 (lg kk) = false := (lg_sg (n := kk) (by omega) hk1).sm.num
      clear hkk W E
      go_wp2_with fail
      refine (l05Next_any _ _ d0 d1).mono ?_
      rintro e w2 ⟨rfl, rfl⟩
      rw [hS.out]
      go_wp2_with fail
      refine (l05Drawn_any _ _ t0' t1').mono ?_
      rintro e w3 ⟨p, n3, rfl, hp, hw3⟩
      have hpn := cn_inj hp (up_num (drawn_up t0' t1') (by decide) (by decide))
      subst hpn
      have hpd := drawn_up t0' t1'
      have hpn2 : isN .f32 (drawnF (sd seed kk)) = false := up_num hpd (by decide) (by decide)
      have wx : ∀ w, wres (drawnF (sd seed kk)) w = wd (drawnF (sd seed kk)) := fun w => by unfold wres; rw [hpn2]; rfl
      have dx : wdr (drawnF (sd seed kk)) = 0 := by unfold wdr; rw [hpn2]; rfl
      clear hpn2 hpd
      have I3 : SpI w1 (some ⟨w1.heap.size, 0, none⟩) ys n slope seed K 0 w3 := by rw [hw3]; exact I.drewN _
      clear hw3 hp I
      go_wp2_with fail
      refine (l01Log_any _ _ l1 l2).mono ?_
      rintro e w4 ⟨lb, n4, rfl, hl, hw4⟩
      have hlb : lb = lg kk := cn_inj hl hln
      subst hlb
      have I4 : SpI w1 (some ⟨w1.heap.size, 0, none⟩) ys n slope seed K 0 w4 := by rw [hw4]; exact I3.drewN _
      clear hw4 hl I3 l1 l2
      go_wp2_with fail
      refine (l01Exp_any _ HE.out _).mono ?_
      rintro e w5 ⟨wb, n5, rfl, hw, hw5⟩
      rw [HW.out] at hw
      have HWB := Lib.hid hw
      have I5 : SpI w1 (some ⟨w1.heap.size, 0, none⟩) ys n slope seed K 0 w5 := by rw [hw5]; exact I4.drewN _
      clear hw5 hw I4 r1 e1 r2 e2 hln HE HW
      go_wp2_with fail
      have hwv : isN .f32 (wv slope kk) = false := up_num (wgt HS.out (k := kk) (by omega) hk1).up (by decide) (by decide)
      have hwb := cn_inj HWB.out hwv
      subst hwb
      obtain ⟨wo, hwo⟩ : ∃ wo, wo = w5 := ⟨_, rfl⟩
      subst hwo
      go_loopw [56] (fun iv wr => ∃ (i : Nat) (ys : List Nat), iv = .int .i64 i ∧ i ≤ n ∧ SpI w1 (some ⟨w1.heap.size, 0, none⟩) ys n slope seed K i wr) (fun iv _ => n - (intOf iv).toNat)
      case atStart => exact ⟨0, ys, rfl, by omega, I5⟩
      case round =>
        clear I5
        obtain ⟨i, zs, rfl, hin, J⟩ := hrel
        by_cases hil : i < n
        · have hlen := J.len
          obtain ⟨b, o, e1, hb, hcell⟩ := J.own.1 i (fv zs[i]) (by simp [hlen, hil])
          injection e1 with e1
          injection e1 with e1 e2
          subst e1; subst e2
          obtain ⟨b, o, e1, _, _, hfz⟩ := J.own.2.1 i (by rw [List.length_map]; omega)
          injection e1 with e1
          injection e1 with e1 e2
          subst e1; subst e2
          rw [Nat.zero_add] at hcell hfz
          have hv := J.val i (by omega)
          rw [if_neg (by omega)] at hv
          have hoU := oF_up HS.out s0 s1 c0 (show n < 65 by omega) K (by have := HK.out; omega) i hil
          have hy : zs[i] = oF slope seed n K i := cn_inj hv (up_num hoU (by omega) (by have := HK.out; omega))
          rw [hy] at hcell
          have hcell : wr.cell? ⟨w1.heap.size, i, none⟩ = some (.float .f32 (oF slope seed n K i)) := hcell
          have m1 : (i : Int) * (kk : Int) ≤ 64 * 32 := Int.mul_le_mul (by omega) (by omega) (by omega) (by omega)
          have m0 : 0 ≤ (i : Int) * (kk : Int) := Int.mul_nonneg (by omega) (by omega)
          have hwr : wrap64 ((i : Int) * (kk : Int)) = (i : Int) * (kk : Int) := by generalize (i : Int) * (kk : Int) = y at *; unfold wrap64; omega
          have hT := turn_spec t0' t1' ((upSm (int_up m0 m1) (by decide) (by decide)).num) HNN.out
          have hTu := turn_up (s := sd seed kk) (ik := (i : Int) * (kk : Int)) t0' t1' m0 m1 c0 (show n < 65 by omega)
          have hre := phV_up (hTu.weak (show 1035 ≤ 1100 by decide))
          have HT := Lib.hid hT
          have hreN : isN .f32 (phV (turnF (sd seed kk) ((i : Int) * (kk : Int)) n)).1 = false := up_num hre (by decide) (by decide)
          have D1 := det_mul (R := 221) ((wgt HS.out (k := kk) (by omega) hk1).up.sm (by decide) (by decide)) (hre.sm (by decide) (by decide)) (by rw [bias32]) (by decide)
          have D2 := det_add (R := 221 + K) (hoU.sm (by omega) (by have := HK.out; show 221 + K ≤ 2 * 127; omega)) ((D1.up.weak (show 221 ≤ 221 + K by omega)).sm (by omega) (by have := HK.out; show 221 + K ≤ 2 * 127; omega)) (by omega)
          have r1 := D1.res
          have x1 := D1.dr
          have r2 := D2.res
          have x2 := D2.dr
          have HV : Hid (cn .f32 (fop .add .f32 (oF slope seed n K i) (fop .mul .f32 (wv slope kk) (phV (turnF (sd seed kk) ((i : Int) * (kk : Int)) n)).1)) = oF slope seed n (K + 1) i) := Lib.hid (by rw [cn_fop, HK.out, oF_succ])
          have HJ := Lib.hid J
          have HRN := Lib.hid hreN
          clear hT hTu hre D1 D2 hoU hy hv m0 m1 hreN J hb
          generalize hre : (phV (turnF (sd seed kk) ((i : Int) * (kk : Int)) n)).1 = re at *
          go_wp2_with fail
          refine (fun (h : ∀ w6, SpI w1 (some ⟨w1.heap.size, 0, none⟩) zs n slope seed K i w6 → w6.cell? ⟨w1.heap.size, i, none⟩ = some (.float .f32 (oF slope seed n K i)) → w6.frozen? ⟨w1.heap.size, i, none⟩ = false → Code.wp Try.prog _ _ _ w6) => h _ (HJ.out.drewN _) hcell hfz) ?_
          clear hcell hfz HJ
          intro w6 J6 hcell hfz
          have HJ := Lib.hid J6
          clear J6
          go_region_with (go_at_call 28; refine (l01Phasor_any _ (kd_add _ _ _) _).mono ?_; rintro e w7 ⟨a, b, m7, rfl, xa, yb, rfl⟩; rw [HT.out, hre] at xa; have hax := cn_inj xa HRN.out; subst hax; clear xa yb)
          all_goals
            go_wp2
            go_roundw
            case rel => exact ⟨i + 1, _, by go_num, by omega, (HJ.out.drewN _).put (by rw [hlen]; exact hil) HV.out (Nat.le_refl _)⟩
            case measure => simp [intOf]; omega
        · obtain rfl : i = n := by omega
          have J2 := J.next
          clear wx dx
          go_wp2
          go_roundw
          case rel => exact ⟨K + 1, kk + 1, _, by go_num, Lib.hid (by rw [HK.out]), by omega, by omega, by rw [← HK.out], J2⟩
          case measure => simp [intOf]; omega
    · have hKe : K = (n - 1) / 2 := by have := HK.out; omega
      subst hKe
      have hfin := spi_fin I HS.out s0 s1 c0 (by omega) (by omega)
      have hval := spi_end I
      have HVL := Lib.hid hval
      have hlen := I.len
      have HO := Lib.hid I.own
      have HB := Lib.hid I.bel
      clear hval d0 d1
      subst hlen
      clear hfin
      go_wp2
      exact bodyPost_ret (v := .tuple #[.slice (some ⟨w1.heap.size, 0, none⟩) ys.length ys.length, .int .i64 (sd seed ((ys.length - 1) / 2)), .bool true]) (by simp [results, Try.results8, go_sem]) rfl ⟨some ⟨w1.heap.size, 0, none⟩, ys.length, ys, rfl, HO.out, HVL.out, HB.out⟩
set_option maxRecDepth 100000 in
set_option maxHeartbeats 1000000 in
theorem specSp_any (count : Int) (slope : Nat) (seed : Int) (w : World) : Calls Try.prog 8 #[.int .i64 count, .float .f32 slope, .int .i64 seed] w (SpO w (spL count slope seed) (spS count slope seed) (spOk count slope seed)) := by
  cases c1 : (decide (2 ≤ count) && decide (count ≤ 64))
  · have hno := Lib.hid (show spOk count slope seed = false by unfold spOk; rw [c1]; simp)
    go_enter Try.func8, Try.ntmps8
    go_wp2_with fail
    refine (in_any _ _ _ _).mono ?_
    rintro e w' ⟨rfl, rfl⟩
    rw [c1]
    go_wp2
    exact bodyPost_ret (v := .tuple #[.slice none 0 0, .int .i64 0, .bool false]) (by simp [results, Try.results8, go_sem]) rfl (spNo hno.out (Below.refl _ _))
  · cases gA : (ford .f32 (cn .f32 slope) (cn .f32 0) == some .gt || ford .f32 (cn .f32 slope) (cn .f32 0) == some .eq)
    · have hno := Lib.hid (show spOk count slope seed = false by unfold spOk; rw [gA]; simp)
      go_enter Try.func8, Try.ntmps8
      go_wp2_with fail
      refine (in_any _ _ _ _).mono ?_
      rintro e w' ⟨rfl, rfl⟩
      rw [c1]
      go_wp2
      exact bodyPost_ret (v := .tuple #[.slice none 0 0, .int .i64 0, .bool false]) (by simp [results, Try.results8, go_sem]) rfl (spNo hno.out (Below.refl _ _))
    · cases gB : (ford .f32 (cn .f32 slope) (cn .f32 1090519040) == some .lt || ford .f32 (cn .f32 slope) (cn .f32 1090519040) == some .eq)
      · have hno := Lib.hid (show spOk count slope seed = false by unfold spOk; rw [gB]; simp)
        go_enter Try.func8, Try.ntmps8
        go_wp2_with fail
        refine (in_any _ _ _ _).mono ?_
        rintro e w' ⟨rfl, rfl⟩
        rw [c1]
        go_wp2
        exact bodyPost_ret (v := .tuple #[.slice none 0 0, .int .i64 0, .bool false]) (by simp [results, Try.results8, go_sem]) rfl (spNo hno.out (Below.refl _ _))
      · cases c3 : (decide (0 ≤ seed) && decide (seed ≤ 2147483647))
        · have hno := Lib.hid (show spOk count slope seed = false by unfold spOk; rw [c3]; simp)
          go_enter Try.func8, Try.ntmps8
          go_wp2_with fail
          refine (in_any _ _ _ _).mono ?_
          rintro e w' ⟨rfl, rfl⟩
          rw [c1]
          go_wp2_with fail
          refine (l05Seed_any _ _).mono ?_
          rintro e w' ⟨rfl, rfl⟩
          rw [c3]
          go_wp2
          exact bodyPost_ret (v := .tuple #[.slice none 0 0, .int .i64 0, .bool false]) (by simp [results, Try.results8, go_sem]) rfl (spNo hno.out (Below.refl _ _))
        · have hok : spOk count slope seed = true := by unfold spOk; rw [c1, gA, gB, c3]; rfl
          rw [Bool.and_eq_true] at c1 c3
          have a1 := of_decide_eq_true c1.1
          have a2 := of_decide_eq_true c1.2
          have a3 := of_decide_eq_true c3.1
          have a4 := of_decide_eq_true c3.2
          obtain ⟨n, rfl⟩ : ∃ n : Nat, count = n := ⟨count.toNat, by omega⟩
          obtain ⟨e1, e2⟩ := spYes hok
          rw [e1, e2, hok]
          exact specSp_yes n slope seed w (by omega) (by omega) gA gB a3 a4
end Go.Proofs.Ytamgekijihpgkaa
