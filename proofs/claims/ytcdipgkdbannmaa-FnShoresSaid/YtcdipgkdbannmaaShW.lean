/- The walk of FnShores. -/
import Derived.Test.YtcdipgkdbannmaaShV
namespace Go.Proofs.Ytcdipgkdbannmaa
open Go.RowKit

set_option maxRecDepth 100000 in
set_option maxHeartbeats 8000000 in
theorem shoresLaw (A B : Option Addr) (L c M d : Nat) (w : World) (hA : BRd w A L) (hB : BRd w B M) (hL : L ≤ maxLen) (hM : M ≤ maxLen) :
    Calls Try.prog 8 #[.slice A L c, .slice B M d] w fun e w' => e = .returned (.bool true) ∧ Below w.heap.size w w' := by
  obtain ⟨i0, hi0, hz0, hz1, hz2⟩ := info_parts info.f32
  go_enter Try.func8, Try.ntmps8
  go_wp2_with fail
  refine (b10Long_any A B L c M d _).mono ?_
  rintro e w1 ⟨rfl, rfl⟩
  cases hlong : (decide (1048576 < L) || decide (1048576 < M))
  case true =>
    go_wp2
    go_ret
    exact ⟨rfl, Below.refl _ _⟩
  go_wp2_with fail
  refine (b10Sheet_any A L c _ hA hL).mono ?_
  rintro e w2 ⟨W, H, AS, cs, xs, rfl, D, hX, k2⟩
  have hx36 : xs.length ≤ 36 := by
    obtain ⟨_, d2, _, d4, d5, _⟩ := D
    rw [d5]
    have : W * H ≤ 6 * 6 := Nat.mul_le_mul d2 d4
    exact this
  have V3 : Hid (ShV w (w2.alloc (.cells #[.int .i64 W, .int .i64 H, .slice AS xs.length cs] 29)) w2.heap.size W H AS xs cs B M) := Lib.hid ⟨boxS_new _ _ _ _ _ _ _ _ rfl, Rd.below hX (below_alloc _ _), (hB.below k2).below (below_alloc _ _), Below.step k2 (below_alloc _ _)⟩
  clear hX k2
  go_wp2_with fail
  refine (b10At_any B M d 0 33 _ V3.out.b hM (by decide) (by decide) (by decide)).mono ?_
  rintro e w3 ⟨t, rfl, ht, rfl⟩
  go_wp2_with fail
  have e16 : IntKind.i64.wrap ((t : Int) - 16) = (t : Int) - 16 := by rw [IntKind.wrap_i64]; omega
  obtain ⟨w4, hw4⟩ : ∃ v, v = w2.alloc (.cells #[.int .i64 W, .int .i64 H, .slice AS xs.length cs] 29) := ⟨_, rfl⟩
  rw [← hw4] at V3
  rw [← hw4]
  obtain ⟨lev, hlev⟩ : ∃ v, v = fres .quo .f32 (floatOfInt .f32 ((t : Int) - 16)) 1082130432 w4 := ⟨_, rfl⟩
  obtain ⟨n4, hn4⟩ : ∃ v, v = fdr .quo .f32 (floatOfInt .f32 ((t : Int) - 16)) 1082130432 := ⟨_, rfl⟩
  rw [← hlev, ← hn4]
  have hcl : cn .f32 lev = hq ((t : Int) - 16) := by rw [hlev, cn_fres]; rfl
  have F := Lib.hid (D.facts ht hcl)
  have V4 := Lib.hid (V3.out.drewN n4)
  clear hlev hn4 hw4 V3
  obtain ⟨w5, hw5⟩ : ∃ v, v = w4.drewN n4 := ⟨_, rfl⟩
  rw [← hw5] at V4
  rw [← hw5]
  clear hw5
  refine (implIs_yes W H AS cs xs lev w5 V4.out.fr (by unfold maxLen; omega) D.sheet (hqcn ht hcl)).mono ?_
  rintro e w6 ⟨S, cs', I, rfl, k6⟩
  have V6 := Lib.hid (V4.out.below k6)
  clear V4 k6
  obtain ⟨z6, a0, a1, a2⟩ := V6.out.box
  go_wp2_with fail
  refine (implCoast_any W H AS cs xs lev w6 V6.out.fr (by unfold maxLen; omega)).mono ?_
  rintro e w7 ⟨rfl, k7⟩
  have V7 := Lib.hid (V6.out.below k7)
  clear V6 k7 z6 a0 a1 a2
  obtain ⟨z6, a0, a1, a2⟩ := V7.out.box
  rw [F.out.ok]
  go_wp2_with fail
  refine (implCt_any W H AS cs xs lev w7 V7.out.fr (by unfold maxLen; omega)).mono ?_
  rintro e w8 ⟨AC, cC, P, rfl, oC, eC, k8⟩
  have V8 := Lib.hid (V7.out.below k8)
  have OC := Lib.hid oC
  rw [F.out.cn] at eC
  rw [F.out.cb]
  clear V7 k8 z6 a0 a1 a2 oC
  obtain ⟨z6, a0, a1, a2⟩ := V8.out.box
  have hPl : P.length = (ctL W H xs lev).length := by rw [← eC]; unfold cp; rw [List.length_map]
  rw [hPl]
  have EC := Lib.hid eC
  have HPl := Lib.hid hPl
  clear eC hPl
  go_wp2_with fail
  have NUM := Lib.hid (isl_nums I)
  have CO := Lib.hid F.out.co
  have FEW := Lib.hid F.out.few
  have PT := Lib.hid F.out.pt
  have HXL := Lib.hid D.2.2.2.2.1
  have HD := Lib.hid (And.intro D.1 (And.intro D.2.1 (And.intro D.2.2.1 D.2.2.2.1)))
  obtain ⟨nC, hnC⟩ : ∃ n, n = (ctL W H xs lev).length := ⟨_, rfl⟩
  rw [← hnC] at CO FEW HPl
  obtain ⟨cL, hcL⟩ : ∃ n, n = ctL W H xs lev := ⟨_, rfl⟩
  rw [← hcL] at PT EC
  rw [← hnC]
  have HnC := Lib.hid hnC
  obtain ⟨kI, hkI⟩ : ∃ n, n = cs'.length := ⟨_, rfl⟩
  obtain ⟨mI, hmI⟩ : ∃ n, n = maxL cs' := ⟨_, rfl⟩
  rw [← hkI, ← hmI] at NUM
  rw [← hkI, ← hmI]
  obtain ⟨nX, hnX⟩ : ∃ n, n = xs.length := ⟨_, rfl⟩
  rw [← hnX] at HXL
  obtain ⟨f, hf⟩ : ∃ f, f = ovB (cl xs) (cn .f32 lev) := ⟨_, rfl⟩
  rw [← hf] at CO NUM
  have hfx : ∀ i x, xs[i]? = some x → f i = (ford .f32 (cn .f32 x) (cn .f32 lev) == some .gt) := fun i x h => by
    rw [hf]
    unfold ovB cl
    rw [List.getD_eq_getElem?_getD, List.getElem?_map, h]
    rfl
  clear hnC hkI hmI hf F D I hcl hcL
  clear z6 a0 a1 a2
  obtain ⟨p, hp⟩ : ∃ p, p = w2.heap.size := ⟨_, rfl⟩
  rw [← hp] at V8
  rw [← hp]
  clear hp
  go_loopw [14, 84] (fun hv iv wr => ∃ (i : Nat), i ≤ xs.length ∧ hv = .int .i64 (cntN f i : Nat) ∧ iv = .int .i64 i ∧ ∃ n, wr = w8.drewN n) (fun hv iv _ => xs.length - (intOf iv).toNat)
  case atStart => exact ⟨0, by omega, rfl, rfl, 0, rfl⟩
  case round =>
    obtain ⟨i, hi, rfl, rfl, n, rfl⟩ := hrel
    have V := Lib.hid (V8.out.drewN n)
    by_cases hlt : i < xs.length
    · obtain ⟨b, o, rfl, hb, hc⟩ := FRd.at_ V.out.fr hlt
      have hx : xs[i]? = some xs[i] := List.getElem?_eq_getElem hlt
      obtain ⟨x, hxe⟩ : ∃ x, x = xs[i] := ⟨_, rfl⟩
      rw [← hxe] at hc hx
      obtain ⟨z6, a0, a1, a2⟩ := V.out.box
      have hfi := hfx i x hx
      have HS := Lib.hid (cntN_succ f i)
      have hil : (i : Int) < xs.length := by omega
      have hcb : cntN f i ≤ i := cntN_le f i
      cases hcmp : (ford .f32 (cn .f32 x) (cn .f32 lev) == some .gt)
      · rw [hcmp] at hfi
        clear hnX hxe
        go_wp2_with fail
        go_roundw
        case rel => exact ⟨i + 1, by omega, by rw [HS.out, hfi]; rfl, by go_num, n, rfl⟩
        case measure => simp [intOf]; omega
      · rw [hcmp] at hfi
        clear hnX hxe
        go_wp2_with fail
        go_roundw
        case rel => exact ⟨i + 1, by omega, by rw [HS.out, hfi]; go_num, by go_num, n, rfl⟩
        case measure => simp [intOf]; omega
    · obtain rfl : i = xs.length := by omega
      have hN := NUM.out
      have hC := CO.out
      rw [← HXL.out, hnX] at hN hC
      have hle := cntN_le f xs.length
      clear hfx NUM CO
      obtain ⟨h, hh⟩ : ∃ h, h = cntN f xs.length := ⟨_, rfl⟩
      rw [← hh] at hN hC hle
      rw [← hh]
      clear hh hi hlt
      obtain ⟨n1, n2, n3, n4, n5⟩ := hN
      have x1 : ¬ (h : Int) < mI := by omega
      have x2 : ¬ (h : Int) < kI := by omega
      have x3 : (h : Int) ≤ (mI : Int) * (kI : Int) := by rw [← Int.natCast_mul]; omega
      have x4 : (mI : Int) * (kI : Int) ≤ 1296 := by
        have : mI * kI ≤ 36 * 36 := Nat.mul_le_mul (by omega) (by omega)
        rw [← Int.natCast_mul]; omega
      have x5 : ¬ (mI : Int) * (kI : Int) < h := by omega
      have x6 : wrap64 ((mI : Int) * (kI : Int)) = (mI : Int) * (kI : Int) := by unfold wrap64; omega
      have HC := Lib.hid (And.intro hnX (And.intro hle hx36))
      have HI := Lib.hid (And.intro n1 (And.intro n2 n5))
      clear hnX n1 n2 n5 x3 x4
      obtain ⟨z6, a0, a1, a2⟩ := V.out.box
      have hcase : (decide (0 < h) = false ∧ decide (0 < kI) = false ∧ decide (0 < mI) = false ∧ decide (0 < nC) = false ∧ ¬ 0 < h ∧ ¬ 0 < kI ∧ ¬ 0 < mI ∧ ¬ 0 < nC) ∨
          (decide (0 < h) = true ∧ decide (0 < kI) = true ∧ decide (0 < mI) = true ∧ decide (0 < nC) = true ∧ 0 < h ∧ 0 < kI ∧ 0 < mI ∧ 0 < nC ∧ (h : Int) < xs.length ∧ h < xs.length) ∨
          (decide (0 < h) = true ∧ decide (0 < kI) = true ∧ decide (0 < mI) = true ∧ decide (0 < nC) = false ∧ 0 < h ∧ 0 < kI ∧ 0 < mI ∧ ¬ 0 < nC ∧ ¬ (h : Int) < xs.length ∧ ¬ h < xs.length) := by
        simp only [decide_eq_true_eq, decide_eq_false_iff_not]
        omega
      clear n3 n4 hC
      rcases hcase with ⟨y1, y2, y3, y4, y5, y6, y7, y8⟩ | ⟨y1, y2, y3, y4, y5, y6, y7, y8, y9, y0⟩ | ⟨y1, y2, y3, y4, y5, y6, y7, y8, y9, y0⟩
      all_goals
        go_wp2_with fail
        clear z6 a0 a1 a2 x1 x2 x5 x6
        obtain ⟨w9, hw9⟩ : ∃ v, v = w8.drewN n := ⟨_, rfl⟩
        rw [← hw9] at V
        have OC9 : Hid (CRd w9 AC P) := Lib.hid (by rw [hw9]; exact OC.out.1)
        rw [← hw9]
        clear hw9
        go_loopw [146] (fun iv wr => ∃ (i : Nat), i ≤ nC ∧ iv = .int .i64 i ∧ ∃ n, wr = w9.drewN n) (fun iv _ => nC - (intOf iv).toNat)
        case atStart => exact ⟨0, by omega, rfl, 0, rfl⟩
        case round =>
          obtain ⟨i, hi, rfl, n10, rfl⟩ := hrel
          by_cases hlt : i < nC
          · obtain ⟨b, o, rfl, hb, hc⟩ := CRd.at_ OC9.out (k := i) (by rw [HPl.out]; exact hlt)
            have hmem : (cn .f32 (P[i]'(by rw [HPl.out]; exact hlt)).1, cn .f32 (P[i]'(by rw [HPl.out]; exact hlt)).2) ∈ cL := by
              rw [← EC.out]
              unfold cp
              exact List.mem_map.2 ⟨_, List.getElem_mem _, rfl⟩
            obtain ⟨q1, q2⟩ := PT.out _ hmem
            obtain ⟨re, hre⟩ : ∃ x, x = (P[i]'(by rw [HPl.out]; exact hlt)).1 := ⟨_, rfl⟩
            obtain ⟨im, him⟩ : ∃ x, x = (P[i]'(by rw [HPl.out]; exact hlt)).2 := ⟨_, rfl⟩
            rw [← hre] at q1 hc
            rw [← him] at q2 hc
            clear hmem hre him
            obtain ⟨g1, g2, d1, e1⟩ := inB_parts q1
            obtain ⟨g3, g4, d2, e2⟩ := inB_parts q2
            obtain ⟨z6, a0, a1, a2⟩ := V.out.box
            obtain ⟨k1, k2, k3, k4⟩ := HD.out
            obtain ⟨s1, s2⟩ := lim_det (W - 1) (by omega)
            obtain ⟨s3, s4⟩ := lim_det (H - 1) (by omega)
            rw [show ((W - 1 : Nat) : Int) = (W : Int) - 1 by omega] at g2 s1 s2
            rw [show ((H - 1 : Nat) : Int) = (H : Int) - 1 by omega] at g4 s3 s4
            have hiI : (i : Int) < nC := by omega
            have h600 := FEW.out
            have eW : IntKind.i64.wrap ((W : Int) - 1) = (W : Int) - 1 := by rw [IntKind.wrap_i64]; omega
            have eH : IntKind.i64.wrap ((H : Int) - 1) = (H : Int) - 1 := by rw [IntKind.wrap_i64]; omega
            have hW6 : (W : Int) ≤ 6 := by omega
            have hH6 : (H : Int) ≤ 6 := by omega
            clear q1 q2
            go_wp2_with fail
            go_quiet (fail)
            go_wp2_with fail
            go_roundw
            case rel => exact ⟨i + 1, by omega, by go_num, _, rfl⟩
            case measure => simp [intOf]; omega
          · obtain rfl : i = nC := by omega
            obtain ⟨wc, hwc⟩ : ∃ v, v = w9.drewN n10 := ⟨_, rfl⟩
            have VC := Lib.hid (V.out.drewN n10)
            rw [← hwc] at VC
            rw [← hwc]
            clear hwc V OC9 hlt hi
            go_wp2_with fail
            refine (b10At_any B M d 1 8 wc VC.out.b hM (by decide) (by decide) (by decide)).mono ?_
            rintro e wc' ⟨j, rfl, hj, rfl⟩
            obtain ⟨sd1, sd2⟩ := slope_det j hj
            have hj8 : (j : Int) < 8 := by omega
            have dz : ∀ v : World, v.drewN 0 = v := fun _ => rfl
            go_wp2_with fail
            obtain ⟨wd, hwd⟩ : ∃ v, v = wc.alloc (.cells #[.int .i64 8, .int .i64 1, .slice none 0 0] 29) := ⟨_, rfl⟩
            have RI : Hid (RowI wc wd wc.heap.size wd.heap.size [] none 0) := Lib.hid (by
              rw [hwd]
              exact ⟨boxS_new _ _ _ _ _ _ _ _ rfl, can3_new _ _ _ _ _ _ rfl, ⟨rfl, .inl ⟨rfl, rfl⟩⟩, Nat.le_refl _, by simp, Nat.le_refl _, below_alloc _ _⟩)
            obtain ⟨b0, hb0⟩ : ∃ v, v = wd.heap.size := ⟨_, rfl⟩
            rw [← hb0] at RI
            rw [← hwd]
            clear hwd hb0
            go_loopw [19] (fun iv wr => ∃ (k : Nat) (Av : Option Addr) (cv : Nat), k ≤ 8 ∧ iv = .int .i64 k ∧ Hid (RowI wc wr wc.heap.size b0 (slpN j k) Av cv)) (fun iv _ => 8 - (intOf iv).toNat)
            case atStart => exact ⟨0, none, 0, by decide, rfl, RI⟩
            case round =>
              clear RI
              obtain ⟨k, Av, cv, hk, rfl, HR⟩ := hrel
              by_cases hk8 : k < 8
              · obtain ⟨z0, b1, b2, b3⟩ := HR.out.box
                rw [slpN_len] at b3
                obtain ⟨pd1, pd2⟩ := prod_det j hj k hk8
                have hkI : (k : Int) < 8 := by omega
                have hown := HR.out.own
                rw [slpN_len] at hown
                have hbz := HR.out.hz
                go_wp2_with (at_builtin; refine wpList_push rfl _ _ 22 rfl b0 26 i0 (.float .f32 0) 4 Try.underlying22 hi0 hz0 hz1 hz2 rfl _ k ((slpN j k).map fv) rfl hown _ rfl rfl (by unfold maxLen; omega) (by omega) hbz ?_)
                intro v' w' ho' hb'
                obtain ⟨A2, c2, rfl⟩ := own_slice ho'
                have hwq := HR.out.hb
                obtain ⟨_, ⟨_, d0⟩, ⟨_, d1⟩, ⟨_, d2⟩, e0, e1, e2⟩ := HR.out.can.of_block hb'.size (hb'.block wc.heap.size hwq)
                have HR' := Lib.hid (HR.out.push (fop .mul .f32 (slp j) (cn .f32 (floatOfInt .f32 (k : Int)))) hb' (by rw [slpN_len]; exact ho'))
                clear hown b1 b2 b3 ho' hb' HR
                go_wp2_with fail
                go_roundw
                case rel => exact ⟨k + 1, A2, c2, by omega, by go_num, Lib.hid (by have h := HR'.out; rw [slpN_len, ← slpN_succ] at h; exact h)⟩
                case measure => simp [intOf]; omega
              · obtain rfl : k = 8 := by omega
                have VD := Lib.hid (VC.out.below HR.out.keep)
                obtain ⟨z0, b1, b2, b3⟩ := HR.out.box
                rw [slpN_len] at b3
                go_wp2_with fail
                refine (b10At_any B M d 2 6 wr VD.out.b hM (by decide) (by decide) (by decide)).mono ?_
                rintro e wr' ⟨g, rfl, hg, rfl⟩
                go_wp2_with fail
                have hFR : FRd wr Av (slpN j 8) := Rd.of_own (by have h := HR.out.own; rw [slpN_len] at h; exact h)
                refine (va_row hj hg Av cv wr hFR).mono ?_
                rintro e we ⟨v1, rfl, hv1, ke⟩
                have b1 := (ke.cell z0).trans b1
                have b2 := (ke.cell z0).trans b2
                have b3 := (ke.cell z0).trans b3
                have z1 := Nat.lt_of_lt_of_le z0 ke.size
                have hFR := Rd.below hFR ke
                have KE := Below.step VD.out.k ke
                clear ke
                go_wp2_with fail
                refine (rg_row hj Av cv we hFR).mono ?_
                rintro e wf ⟨v2, rfl, hv2, ke⟩
                have b1 := (ke.cell z1).trans b1
                have b2 := (ke.cell z1).trans b2
                have b3 := (ke.cell z1).trans b3
                have z2 := Nat.lt_of_lt_of_le z1 ke.size
                have hFR := Rd.below hFR ke
                have KF := Below.step KE ke
                clear ke
                go_wp2_with fail
                refine (va_row8 hj Av cv wf hFR).mono ?_
                rintro e wg ⟨v3, rfl, hv3, ke⟩
                have KG := Below.step KF ke
                clear ke b1 b2 b3 hFR KE KF
                obtain ⟨C, M1, M2, WV, M4, M5, G, eG, d0, e0, ⟨m1, n1⟩, ⟨m2, n2⟩, ⟨m3, n3⟩, ⟨m4, n4'⟩, ⟨m5, n5⟩, hva⟩ := want_all hj hg
                obtain ⟨d1, V1, e1, hgap1⟩ := hva v1 hv1
                obtain ⟨d2, V2, e2, hgap2⟩ := rough_all hj v2 hv2
                clear hva hv1 hv2 hv3
                go_wp2_with fail
                refine (b10Gap_any V1 WV wg).mono ?_
                rintro e wh ⟨r1, rfl, hr1, nh, rfl⟩
                have c1 := hgap1 r1 hr1
                clear hgap1 hr1
                go_wp2_with fail
                refine (b10Gap_any V2 4607182418800017408 _).mono ?_
                rintro e wi ⟨r2, rfl, hr2, ni, rfl⟩
                have c2 := hgap2 r2 hr2
                clear hgap2 hr2
                go_wp2
                go_ret
                exact ⟨rfl, below_drewN KG _⟩
end Go.Proofs.Ytcdipgkdbannmaa
