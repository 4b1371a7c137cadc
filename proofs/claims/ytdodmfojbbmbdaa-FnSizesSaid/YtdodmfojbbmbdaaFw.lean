/- The walk of FnSizes. -/
import Derived.Test.YtdodmfojbbmbdaaSd
import Derived.BigQuiet
import Derived.BigGuardPart
import Derived.Deep.QuietTactic
namespace Go.Proofs.Ytdodmfojbbmbdaa
open Go.RowKit Ieee

theorem specExp_any (x : Nat) (E : ExF x) (w : World) : Calls Try.prog 7 #[.float .f32 x] w (FloatR w (exN x)) := by
  have X := fun w => l01Exp_any x E w
  generalize exN x = r at X
  go_enter Try.func7, Try.ntmps7
  go_wp2_with fail
  refine (X _).mono ?_
  rintro e w1 ⟨b, n, rfl, hb, rfl⟩
  go_wp2
  go_ret
  exact ⟨_, _, rfl, hb, rfl⟩
theorem specLog_any (x : Nat) (w : World) (hp : ford .f32 (cn .f32 x) (cn .f32 0) = some .gt) (hf : finB (cn .f32 x) = true) : Calls Try.prog 8 #[.float .f32 x] w (FloatR w (logF (cn .f32 x))) := by
  have X := fun w => l01Log_any x w hp hf
  generalize logF (cn .f32 x) = r at X
  go_enter Try.func8, Try.ntmps8
  go_wp2_with fail
  refine (X _).mono ?_
  rintro e w1 ⟨b, n, rfl, hb, rfl⟩
  go_wp2
  go_ret
  exact ⟨_, _, rfl, hb, rfl⟩
theorem d_tn : ∀ j, j < 6 → floatBits .quo .f32 (floatOfInt .f32 ((j : Nat) + 1 : Int)) 1090519040 = some (q8 ((j : Nat) + 1 : Int)) := by decide +kernel
set_option maxRecDepth 100000 in
set_option maxHeartbeats 4000000 in
theorem sizesLaw (A B : Option Addr) (L c M d : Nat) (w : World) (hA : BRd w A L) (hB : BRd w B M) (hL : L ≤ maxLen) (hM : M ≤ maxLen) :
    Calls Try.prog 3 #[.slice A L c, .slice B M d] w fun e w' => e = .returned (.bool true) ∧ Below w.heap.size w w' := by
  obtain ⟨i0, hi0, hz0, hz1, hz2⟩ := info_parts info.small
  go_enter Try.func3, Try.ntmps3
  go_wp2_with fail
  refine (b10Long_any A B L c M d _).mono ?_
  rintro e w1 ⟨rfl, rfl⟩
  cases hlong : (decide (1048576 < L) || decide (1048576 < M))
  case true =>
    go_wp2
    go_ret
    exact ⟨rfl, Below.refl _ _⟩
  go_wp2_with fail
  refine (b10Smalls_any A L c _ hA hL).mono ?_
  rintro e w2 ⟨AS, cs, Ss, rfl, hn, HD, hR, k2⟩
  have hB2 := hB.below k2
  have h6 : Ss.length < 6 := by omega
  have h0 : 0 < Ss.length := by omega
  go_wp2_with fail
  have SZ := sizeOf_any AS cs Ss _ w2 hR (DSm.smL HD h6 h0) (fun S hS => (HD S hS).smT) _ rfl (DSm.lsF HD h6 h0)
  have BE0 := bN_end (DSm.lsF HD h6 h0)
  have SG := sum_gap (DSm.lsF HD h6 h0)
  obtain ⟨sz, hsz⟩ : ∃ s, s = (bN (lgs Ss) 40).1 := ⟨_, rfl⟩
  rw [← hsz] at SZ BE0 SG
  clear hsz
  refine SZ.mono ?_
  rintro e w3 ⟨rfl, k3⟩
  have BE := Lib.hid BE0
  have HSG := Lib.hid SG
  have hR3 := hR.below k3
  have hB3 := hB2.below k3
  have K3 := Lib.hid (Below.step k2 k3)
  clear k2 k3 hR hB2 SZ BE0 SG
  have hneg : (ford .f32 (cn .f32 sz) (cn .f32 0) == some .lt) = false := by
    rw [BE.out.fin.cn, zero_val.1.cn]
    have := (order_val BE.out.fin zero_val.1).1
    rw [zero_val.2] at this
    have hlo := BE.out.lo
    cases ho : ford .f32 sz 0 with
    | none => rfl
    | some o =>
      cases o with
      | lt => exact absurd (this.1 ho) (by grind)
      | eq => rfl
      | gt => rfl
  go_wp2_with fail
  have HLs := Lib.hid (DSm.lsF HD h6 h0)
  obtain ⟨Ls, hLs⟩ : ∃ Ls, Ls = lgs Ss := ⟨_, rfl⟩
  have hLL : Ls.length = Ss.length := by rw [hLs]; unfold lgs; rw [List.length_map]
  rw [← hLs] at HLs BE HSG
  have HLL := Lib.hid (And.intro hLs hLL)
  clear hLs hLL
  have dz : ∀ v : World, v.drewN 0 = v := fun _ => rfl
  go_loopw [8, 45] (fun sv iv wr => ∃ i : Nat, i ≤ Ss.length ∧ sv = .float .f64 (s64 sz (Ls.take i) 0) ∧ iv = .int .i64 i ∧ Hid (Below w3.heap.size w3 wr)) (fun _ iv _ => Ss.length - (intOf iv).toNat)
  case atStart => exact ⟨0, by omega, rfl, rfl, Lib.hid (Below.refl _ _)⟩
  case round =>
    obtain ⟨i, hi, rfl, rfl, HK⟩ := hrel
    have hAr := hR3.below HK.out
    by_cases hil : i < Ss.length
    · obtain ⟨b, o, rfl, hb, c0, c1, c2, c3⟩ := hAr i Ss[i] (by simp [hil])
      have hT := (HD Ss[i] (List.getElem_mem hil)).smT
      have hiL : i < Ls.length := by rw [HLL.out.2]; exact hil
      have hlo := BE.out.lo
      have hhi := BE.out.hi
      obtain ⟨x, E, T1, T2, T3, T4, T5, T6⟩ := t64_of HLs.out BE.out.fin hlo hhi hiL
      have eL' := lgs_at HLL.out.1 hiL hil
      obtain ⟨S, hS⟩ : ∃ S, S = Ss[i] := ⟨_, rfl⟩
      rw [← hS] at c0 c1 c2 c3 hT eL'
      clear hS
      have hLf := (HLs.out.lg _ (List.getElem_mem hiL)).fin.num
      obtain ⟨L1, hLe⟩ : ∃ L, L = Ls[i] := ⟨_, rfl⟩
      rw [← hLe] at T1 eL' hLf
      clear hLe hlo hhi
      have LO := fun w => specLong_any S.tr S.ti hT.lg w
      have LN := fun w => specLog_any (lgV S.tr S.ti) w hT.gt hT.fin
      rw [cn_of_not hT.num, ← eL'] at LN
      obtain ⟨l, hl⟩ : ∃ l, l = lgV S.tr S.ti := ⟨_, rfl⟩
      rw [← hl] at LO LN
      clear hl eL'
      obtain ⟨m3, m4⟩ := T1
      obtain ⟨wd1, wd2⟩ := T5
      obtain ⟨a3, a4⟩ := T6
      have EX := fun w => specExp_any x T2 w
      rw [T3] at EX
      obtain ⟨s1, hs1⟩ : ∃ z, z = s64 sz (Ls.take i) 0 := ⟨_, rfl⟩
      obtain ⟨s2, hs2⟩ : ∃ z, z = s64 sz (Ls.take (i + 1)) 0 := ⟨_, rfl⟩
      rw [← hs1, ← hs2] at a3
      rw [← hs1] at a4
      rw [← hs1]
      have HS2 := Lib.hid hs2
      clear hs1 hs2 T2 T3
      have hiI : (i : Int) < Ss.length := by omega
      go_wp2_with fail
      refine (LO _).mono ?_
      rintro e w5 ⟨rfl, rfl⟩
      go_wp2_with fail
      refine (LN _).mono ?_
      rintro e w5 ⟨b1, n1, rfl, hb1, rfl⟩
      obtain rfl := raw_eq hb1 hLf
      go_wp2_with fail
      refine (EX _).mono ?_
      rintro e w5 ⟨b2, n2, rfl, hb2, rfl⟩
      obtain rfl := raw_eq hb2 T4
      go_wp2_with fail
      go_roundw
      case rel => exact ⟨i + 1, by omega, by rw [HS2.out], by go_num, Lib.hid (below_drewN HK.out _)⟩
      case measure => simp [intOf]; omega
    · obtain rfl : i = Ss.length := by omega
      have hst : Ls.take Ss.length = Ls := List.take_of_length_le (by rw [HLL.out.2]; exact Nat.le_refl _)
      rw [hst]
      have h159 : (ford .f32 (cn .f32 sz) (cn .f32 1098802790) == some .lt) = true := by
        have hc : isF .f32 1098802790 ∧ 9 < rv .f32 1098802790 := ⟨isF_of (by decide +kernel), by decide +kernel⟩
        rw [BE.out.fin.cn, hc.1.cn]
        have := (order_val BE.out.fin hc.1).1
        have hhi := BE.out.hi
        rw [this.2 (by have := hc.2; grind)]
        rfl
      have hs64 := (s64_all BE.out.fin BE.out.lo BE.out.hi HLs.out.lg HLs.out.few).1.cn
      obtain ⟨sm, hsm⟩ : ∃ z, z = s64 sz Ls 0 := ⟨_, rfl⟩
      rw [← hsm] at hs64
      have hg := HSG.out
      rw [← hsm] at hg
      rw [← hsm]
      clear hsm hst
      have HC := Lib.hid (show Below w.heap.size w wr from Below.step K3.out HK.out)
      rcases Nat.lt_or_ge 1 Ss.length with h1 | h1
      case' inl =>
        have h1' : (1 : Int) < Ss.length := by omega
        go_wp2_with fail
        refine (b10Gap_any sm 4607182418800017408 _).mono ?_
        rintro e wq ⟨r, rfl, hr, nq, rfl⟩
        have hc : (ford .f64 (cn .f64 r) (cn .f64 4576918229304087675) == some .gt) = false := by
          rw [hr, hs64, one64.1.cn, c01.1.cn]
          exact hg
        have HC := Lib.hid (below_drewN HC.out nq)
        have hRq : Hid (SRd (wr.drewN nq) AS Ss) := Lib.hid hAr
        clear hr hg hs64 h159
        go_wp2_with fail
        obtain ⟨wq, hwq⟩ : ∃ v, v = wr.drewN nq := ⟨_, rfl⟩
        rw [← hwq] at HC hRq
        rw [← hwq]
        clear hwq hc HK hAr h1 h1'
      case' inr =>
        have h1' : ¬ (1 : Int) < Ss.length := by omega
        have hRq : Hid (SRd wr AS Ss) := Lib.hid hAr
        clear hg hs64 h159
        go_wp2_with fail
        obtain ⟨wq, hwq⟩ : ∃ v, v = wr := ⟨_, rfl⟩
        rw [← hwq] at HC hRq
        rw [← hwq]
        clear hwq HK hAr h1 h1'
      all_goals
        have hBq := hB.below HC.out
        refine (b10At_any B M d 0 6 wq hBq hM (by decide) (by decide) (by decide)).mono ?_
        rintro e wq' ⟨j, rfl, hj, rfl⟩
        obtain ⟨q1, q2⟩ := det_some (d_tn j hj)
        obtain ⟨tn, htn⟩ : ∃ t, t = q8 ((j : Int) + 1) := ⟨_, rfl⟩
        rw [← htn] at q1
        have HTN := Lib.hid htn
        clear htn
        rw [show ((j : Int) + 1) = 1 + (j : Int) by omega] at q1 q2
        go_wp2_with fail
        refine (b10At_any B M d 1 4 wq hBq hM (by decide) (by decide) (by decide)).mono ?_
        rintro e wq' ⟨n0, rfl, hn0, rfl⟩
        obtain ⟨n, hnn⟩ : ∃ n : Nat, n = 2 + n0 := ⟨_, rfl⟩
        have hn2 : 2 ≤ n := by omega
        have hn5 : n ≤ 5 := by omega
        obtain ⟨u1, u2⟩ := det_some (d_sh n (by omega) (by omega))
        obtain ⟨u, hu⟩ : ∃ u, u = fop .quo .f32 (cn .f32 1065353216) (cn .f32 (floatOfInt .f32 (n : Int))) := ⟨_, rfl⟩
        rw [← hu] at u1
        have HU := Lib.hid hu
        clear hu
        rw [hnn, show (((2 + n0 : Nat) : Int)) = 2 + (n0 : Int) by omega] at u1 u2
        go_wp2_with fail
        have hnI : (2 + (n0 : Int)) = (n : Int) := by omega
        rw [hnI]
        rw [hnI] at u1 u2
        clear hnI hnn
        obtain ⟨b0, hb0⟩ : ∃ b, b = wq.heap.size := ⟨_, rfl⟩
        obtain ⟨we, hwe⟩ : ∃ v, v = wq.alloc (.cells #[] 34) := ⟨_, rfl⟩
        have hO : Hid (we.ownsRow b0 34 4 (.slice (some ⟨wq.heap.size, 0, none⟩) 0 0) 0 []) := Lib.hid (by rw [hwe, hb0]; exact World.ownsRow_made (e := 34) (size := 4) wq #[] 0 (Nat.le_refl _) (Nat.zero_le _) rfl)
        have K4 : Hid (Below wq.heap.size wq we) := Lib.hid (by rw [hwe]; exact below_alloc _ _)
        have hz4 : b0 ≤ we.heap.size := by rw [hwe, hb0]; simp
        have hwb : wq.heap.size ≤ b0 := by omega
        rw [← hwe]
        clear hwe hb0
        go_loopw [12, 13] (fun ov iv wr => ∃ (i : Nat), i ≤ n ∧ iv = .int .i64 i ∧ Hid (wr.ownsRow b0 34 4 ov i ((eqL j n i).flatMap sc)) ∧ Hid (Below wq.heap.size wq wr) ∧ b0 ≤ wr.heap.size) (fun _ iv _ => n - (intOf iv).toNat)
        case atStart => exact ⟨0, by omega, rfl, hO, K4, hz4⟩
        case round =>
          clear hO K4 hz4
          obtain ⟨i, hi, rfl, HO, HKe, hbz⟩ := hrel
          by_cases hlt : i < n
          · have hown := HO.out
            have hiI : (i : Int) < n := by omega
            go_wp2_with (at_builtin; refine wpList_pushZ (us := [.complex .f32 tn 0, .complex .f32 (floatOfInt .f32 (i : Int)) 0, .bool false, .float .f32 u]) rfl _ _ 24 rfl b0 34 i0 (.agg #[.complex .f32 0 0, .complex .f32 0 0, .bool false, .float .f32 0]) 24 Try.underlying24 hi0 hz0 hz1 hz2 rfl (Nat.zero_lt_succ _) _ i ((eqL j n i).flatMap sc) rfl hown 1 (by simp [Act.eval]) (by simp [Value.oneCell']) (by unfold maxLen; omega) (by omega) hbz ?_)
            intro v' w' ho' hk' _
            have O13 := Lib.hid ho'
            have K13 := Lib.hid (Keep.below HKe.out hk' HKe.out.size (fun k h => by have := (hown.lt _ h).1; omega))
            have hz13 := Nat.le_trans hbz hk'.size
            clear ho' hk' hown
            go_wp2_with fail
            go_roundw
            case rel => exact ⟨i + 1, by omega, by go_num, Lib.hid (by have h := O13.out; rw [HTN.out, HU.out] at h; rw [eqL_succ, List.flatMap_append, List.flatMap_singleton]; exact h), K13, hz13⟩
            case measure => simp [intOf]; omega
          · obtain rfl : i = n := by omega
            have ho := HO.out
            obtain ⟨El, hEl⟩ : ∃ E, E = eqL j i i := ⟨_, rfl⟩
            have hl : El.length = i := by rw [hEl, eqL_len]
            rw [← hEl, ← hl] at ho
            obtain ⟨AE, cE, eA, hRE⟩ := own_srd ho
            rw [hl] at eA
            subst eA
            have HRE := Lib.hid hRE
            clear ho hRE HO
            have SZ := sizeOf_any AE cE El (uN El.length) wr HRE.out (by rw [hl, hEl]; exact eqL_smL hj hn2 hn5) (by rw [hEl]; exact eqL_smT hj hn2 hn5) _ (by rw [hEl]; exact eqL_lgs j i) (eq_near hj hn2 hn5).1
            rw [hl] at SZ
            have EN := Lib.hid (eq_near hj hn2 hn5)
            have EG := Lib.hid (eq_gap hj hn2 hn5)
            have BE2 := Lib.hid (bN_end (eq_near hj hn2 hn5).1)
            obtain ⟨sm2, hsm2⟩ : ∃ z, z = (bN (List.replicate i (eL1 j)) 40).1 := ⟨_, rfl⟩
            rw [← hsm2] at SZ BE2 EN EG
            clear hsm2
            go_wp2_with fail
            refine SZ.mono ?_
            rintro e w8 ⟨rfl, k8⟩
            have K8 := Lib.hid (Below.step HKe.out k8)
            clear k8 SZ HKe
            go_wp2_with fail
            obtain ⟨n1, n2, n3⟩ := ln_ok hn2 hn5
            obtain ⟨t1, t2, t3, t4⟩ := lt_ok hj
            obtain ⟨q3, q4⟩ := det_some (lq_ok hj hn2 hn5)
            obtain ⟨PP, MM, ⟨p1, p2⟩, ⟨m1, m2⟩, hM, hg⟩ := EG.out
            have hf := EN.out.2.1.cn
            have bf := BE2.out.fin
            obtain ⟨lv, hlv⟩ : ∃ z, z = eLv j i := ⟨_, rfl⟩
            rw [← hlv] at q3 p1 p2 hg hf
            rw [← HTN.out] at t1 t2 t3 t4 q3 q4
            obtain ⟨ln, hln⟩ : ∃ z, z = lnF i := ⟨_, rfl⟩
            have LN := fun w => specLog_any (floatOfInt .f32 (i : Int)) w n1 n2
            rw [show logF (cn .f32 (floatOfInt .f32 (i : Int))) = ln from hln.symm] at LN
            rw [← hln] at n3 q3 q4
            have LT := fun w => specLog_any tn w t1 t2
            rw [t4] at LT
            obtain ⟨lt, hlt⟩ : ∃ z, z = logF tn := ⟨_, rfl⟩
            rw [← hlt] at LT t3 q3 q4
            obtain ⟨x1, x2⟩ := wdr_zero n3
            obtain ⟨x3, x4⟩ := wdr_zero t3
            obtain ⟨x5, x6⟩ := wdr_zero bf
            have nn3 := n3.num
            have nt3 := t3.num
            have c64s := (wide_val bf).1.cn
            clear hlv hln hlt n1 n2 n3 t1 t2 t3 t4 bf EN EG BE2 BE
            refine (LN _).mono ?_
            rintro e w9 ⟨b1, k1, rfl, hb1, rfl⟩
            obtain rfl := raw_eq hb1 nn3
            go_wp2_with fail
            refine (LT _).mono ?_
            rintro e w9 ⟨b2, k2, rfl, hb2, rfl⟩
            obtain rfl := raw_eq hb2 nt3
            go_wp2_with fail
            refine (b10Gap_any (c64 sm2) lv _).mono ?_
            rintro e w9 ⟨r, rfl, hr, n9, rfl⟩
            have hc : (ford .f64 (cn .f64 r) (cn .f64 MM) == some .gt) = false := by
              rw [hr, c64s, hf, hM]
              exact hg
            obtain ⟨w9, hw9⟩ : ∃ v, v = (w8.drewN (k1 + k2)).drewN n9 := ⟨_, rfl⟩
            have K9 : Hid (Below wq.heap.size wq w9) := Lib.hid (by rw [hw9]; exact below_drewN (below_drewN K8.out _) _)
            rw [← hw9]
            clear hw9 hr hg hf hM c64s K8 LN LT q3 q4 x1 x2 x3 x4 x5 x6 hb1 hb2 nn3 nt3
            go_wp2_with fail
            obtain ⟨bo, hbo⟩ : ∃ b, b = w9.heap.size := ⟨_, rfl⟩
            obtain ⟨wo, hwo⟩ : ∃ v, v = w9.alloc (.cells #[] 34) := ⟨_, rfl⟩
            have hO : Hid (wo.ownsRow bo 34 4 (.slice (some ⟨w9.heap.size, 0, none⟩) 0 0) 0 []) := Lib.hid (by rw [hwo, hbo]; exact World.ownsRow_made (e := 34) (size := 4) w9 #[] 0 (Nat.le_refl _) (Nat.zero_le _) rfl)
            have K10 : Hid (Below wq.heap.size wq wo) := Lib.hid (by rw [hwo]; exact Below.step K9.out (below_alloc _ _))
            have hzo : bo ≤ wo.heap.size := by rw [hwo, hbo]; simp
            have hwbo : wq.heap.size ≤ bo := by rw [hbo]; exact K9.out.size
            rw [← hwo]
            clear hwo hbo K9
            go_loopw [17, 129] (fun ov iv wr => ∃ (k : Nat), k ≤ Ss.length ∧ iv = .int .i64 k ∧ Hid (wr.ownsRow bo 34 4 ov k ((othL Ss k).flatMap sc)) ∧ Hid (Below wq.heap.size wq wr) ∧ bo ≤ wr.heap.size) (fun _ iv _ => Ss.length - (intOf iv).toNat)
            case atStart => exact ⟨0, by omega, rfl, hO, K10, hzo⟩
            case round =>
              clear hO K10 hzo
              obtain ⟨k, hk, rfl, HO, HKo, hbz⟩ := hrel
              have hRr := hRq.out.below HKo.out
              by_cases hlt : k < Ss.length
              · have hown := HO.out
                have hkI : (k : Int) < Ss.length := by omega
                have hml : Ss.length - 1 - k < Ss.length := by omega
                obtain ⟨b, o, rfl, hb, c0, c1, c2, c3⟩ := hRr k Ss[k] (by simp [hlt])
                obtain ⟨b', o', eB, hb', d0, d1, d2, d3⟩ := hRr (Ss.length - 1 - k) Ss[Ss.length - 1 - k] (by simp [hml])
                obtain ⟨rfl, rfl⟩ : b = b' ∧ o = o' := by simp at eB; exact eB
                have hsucc : Hid (othL Ss (k + 1) = othL Ss k ++ [othS Ss[k] Ss[Ss.length - 1 - k]]) := Lib.hid (by rw [othL_succ, List.getD_eq_getElem?_getD, List.getD_eq_getElem?_getD, List.getElem?_eq_getElem hlt, List.getElem?_eq_getElem hml]; rfl)
                generalize Ss[k] = S1 at *
                generalize Ss[Ss.length - 1 - k] = S2 at *
                clear eB hb' c0 c1 c3
                have hown2 : (wr.alloc (.cells #[.complex .f32 S2.tr S2.ti, .complex .f32 S2.sr S2.si, .bool S1.fl, .float .f32 S2.sh] 34)).ownsRow bo 34 4 u17 k ((othL Ss k).flatMap sc) := hown.alloc _
                have hbz2 : bo ≤ (wr.alloc (.cells #[.complex .f32 S2.tr S2.ti, .complex .f32 S2.sr S2.si, .bool S1.fl, .float .f32 S2.sh] 34)).heap.size := Nat.le_trans hbz (size_alloc_lt _ _)
                go_wp2_with (at_builtin; refine wpList_pushZ (us := [.complex .f32 S2.tr S2.ti, .complex .f32 S2.sr S2.si, .bool S1.fl, .float .f32 S2.sh]) rfl _ _ 24 rfl bo 34 i0 (.agg #[.complex .f32 0 0, .complex .f32 0 0, .bool false, .float .f32 0]) 24 Try.underlying24 hi0 hz0 hz1 hz2 rfl (Nat.zero_lt_succ _) _ k ((othL Ss k).flatMap sc) rfl hown2 1 (by simp [Act.eval]) (by simp [Value.oneCell']) (by unfold maxLen; omega) (by omega) hbz2 ?_)
                intro v' w' ho' hk' _
                have O13 := Lib.hid ho'
                have K13 : Hid (Below wq.heap.size wq w') := Lib.hid (Keep.below (Below.step HKo.out (below_alloc _ _)) hk' (Nat.le_trans HKo.out.size (size_alloc_lt _ _)) (fun k h => by have := (hown.lt _ h).1; omega))
                have hz13 := Nat.le_trans hbz2 hk'.size
                clear ho' hk' hown hown2 hbz2 c2 d0 d1 d2 d3
                go_wp2_with fail
                go_roundw
                case rel => exact ⟨k + 1, by omega, by go_num, Lib.hid (by have h := O13.out; rw [hsucc.out, List.flatMap_append, List.flatMap_singleton]; exact h), K13, hz13⟩
                case measure => simp [intOf]; omega
              · obtain rfl : k = Ss.length := by omega
                have ho := HO.out
                have MF0 := mixF_0 HD h6 h0
                have MF := fun s => @mixF_of Ss HD h6 h0 s
                have LF := fun (s : Nat) hs (k : Nat) h1 h2 => last_ok Try.prog (s := s) hs (oth_pair HD (i := k) h1 h2)
                obtain ⟨Ol, hOl⟩ : ∃ O, O = othL Ss Ss.length := ⟨_, rfl⟩
                have hl : Ol.length = Ss.length := by rw [hOl, othL_len]
                rw [← hOl] at ho MF0
                rw [← hOl] at MF
                rw [← hOl] at LF
                rw [← hl] at ho
                obtain ⟨AO, cO, eA, hRO⟩ := own_srd ho
                rw [hl] at eA
                subst eA
                have HRO := Lib.hid hRO
                have HOL := Lib.hid hl
                have HMF0 := Lib.hid MF0
                have HMF := Lib.hid MF
                have HLF := Lib.hid LF
                clear ho hRO HO hl MF0 MF LF hOl
                go_wp2_with fail
                refine (b10At_any B M d 2 9 wr (hBq.below HKo.out) hM (by decide) (by decide) (by decide)).mono ?_
                rintro e wq' ⟨s, rfl, hs9, rfl⟩
                obtain ⟨q3, q4⟩ := det_some (d_s s hs9)
                obtain ⟨sw, hsw⟩ : ∃ z, z = q8 (s : Int) := ⟨_, rfl⟩
                rw [← hsw] at q3
                have HSW := Lib.hid hsw
                clear hsw
                go_wp2_with fail
                have X1 := HMF.out s hs9
                rw [← HSW.out] at X1
                have hRS := hRq.out.below HKo.out
                have MX1 := mixSmalls_any AS AO cs cO Ss Ol sw _ _ _ wr hRS HRO.out X1.ls X1.lo X1.ln X1.sw X1.mx X1.lx
                rw [HOL.out] at MX1
                clear X1 q3 q4
                refine MX1.mono ?_
                rintro e w10 ⟨A1, e1, rfl, R1, _, k10⟩
                have HR1 := Lib.hid R1
                have K10 := Lib.hid (Below.step HKo.out k10)
                have hRS2 := hRS.below k10
                have hRO2 := HRO.out.below k10
                clear MX1 R1 k10 HRO hRS
                go_wp2_with fail
                have X0 := HMF0.out
                have MX0 := mixSmalls_any AS AO cs cO Ss Ol 0 _ _ _ w10 hRS2 hRO2 X0.ls X0.lo X0.ln X0.sw X0.mx X0.lx
                rw [HOL.out] at MX0
                clear X0
                refine MX0.mono ?_
                rintro e w11 ⟨A2, e2, rfl, R2, _, k11⟩
                have HR2 := Lib.hid R2
                have HR1 := Lib.hid (HR1.out.below k11)
                have HRS := Lib.hid (hRS2.below k11)
                have HRO := Lib.hid (hRO2.below k11)
                have K11 := Lib.hid (Below.step K10.out k11)
                clear MX0 R2 k11 hRS2 hRO2 K10
                go_wp2_with fail
                have HK12 := Lib.hid (Below.step HC.out K11.out)
                clear K11 hBq hB3 hRq hR3 HC
                go_loopw [190] (fun iv wr => ∃ (k : Nat), k ≤ Ss.length ∧ iv = .int .i64 k ∧ Hid (Below w11.heap.size w11 wr)) (fun iv _ => Ss.length - (intOf iv).toNat)
                case atStart => exact ⟨0, by omega, rfl, Lib.hid (Below.refl _ _)⟩
                case round =>
                  obtain ⟨k, hk, rfl, HW⟩ := hrel
                  by_cases hlt : k < Ss.length
                  · have hlt2 : k < Ol.length := by rw [HOL.out]; exact hlt
                    have hkI : (k : Int) < Ss.length := by omega
                    have g1 : Ss[k]? = some Ss[k] := by simp [hlt]
                    have g2 : Ol[k]? = some Ol[k] := by simp [hlt2]
                    have g3 := mixL_get (s := sw) g1 g2
                    have g4 := mixL_get (s := 0) g1 g2
                    have LF := HLF.out s hs9 k hlt hlt2
                    obtain ⟨b, o, rfl, hb, c0, c1, c2, _⟩ := (HRS.out.below HW.out) k _ g1
                    obtain ⟨b', o', rfl, hb', x0, _, _, _⟩ := (HRO.out.below HW.out) k _ g2
                    obtain ⟨b1, o1, rfl, hb1, y0, _, y2, _⟩ := (HR1.out.below HW.out) k _ g3
                    obtain ⟨b2, o2, rfl, hb2, _, z1, _, _⟩ := (HR2.out.below HW.out) k _ g4
                    clear g1 g2 g3 g4
                    generalize Ss[k] = S1 at *
                    generalize Ol[k] = S2 at *
                    obtain ⟨d1, d2, p1, p2, a1, a2, u1, u2, v1, v2, L1, L2, L3, L4, L5, Z1, Z2, Z3, Z4⟩ := LF
                    rw [← HSW.out] at L2 L4
                    obtain ⟨N1, hN1⟩ : ∃ N, N = mixS sw S1 S2 := ⟨_, rfl⟩
                    obtain ⟨N2, hN2⟩ : ∃ N, N = mixS 0 S1 S2 := ⟨_, rfl⟩
                    have e1 : N1.tr = mixV S1.tr S2.tr sw := by rw [hN1]; rfl
                    have e2 : N1.ti = mixV S1.ti S2.ti sw := by rw [hN1]; rfl
                    have e3 : N2.sr = mixV S1.sr S2.sr 0 := by rw [hN2]; rfl
                    have e4 : N2.si = mixV S1.si S2.si 0 := by rw [hN2]; rfl
                    have e5 : N1.fl = S1.fl := by rw [hN1]; rfl
                    rw [← hN1] at y0 y2
                    rw [← hN2] at z1
                    rw [e5] at y2
                    rw [← e1, ← e2] at L4
                    rw [← e3, ← e4] at L5
                    obtain ⟨z1a, z1b⟩ := nil_long Z1 Z2
                    obtain ⟨z2a, z2b⟩ := nil_long Z3 Z4
                    have LO1 := fun w => specLong_any u1 u2 (lgD_of z1a) w
                    have LO2 := fun w => specLong_any v1 v2 (lgD_of z2a) w
                    rw [z1b] at LO1
                    rw [z2b] at LO2
                    clear e1 e2 e3 e4 e5 hN1 hN2 Z1 Z2 Z3 Z4 z1a z1b z2a z2b
                    go_wp2_with fail
                    go_quiet (fail)
                    obtain ⟨wx, hwx⟩ : ∃ v, v = wr.drewN nq := ⟨_, rfl⟩
                    replace c1 : wx.cell? ⟨b, o + k * 4 + 1, none⟩ = some (.complex .f32 S1.sr S1.si) := by rw [hwx]; exact c1
                    replace c2 : wx.cell? ⟨b, o + k * 4 + 2, none⟩ = some (.bool S1.fl) := by rw [hwx]; exact c2
                    replace y0 : wx.cell? ⟨b1, o1 + k * 4, none⟩ = some (.complex .f32 N1.tr N1.ti) := by rw [hwx]; exact y0
                    replace y2 : wx.cell? ⟨b1, o1 + k * 4 + 2, none⟩ = some (.bool S1.fl) := by rw [hwx]; exact y2
                    replace z1 : wx.cell? ⟨b2, o2 + k * 4 + 1, none⟩ = some (.complex .f32 N2.sr N2.si) := by rw [hwx]; exact z1
                    have zx1 : wdr 0 = 0 := by decide +kernel
                    have zx2 : ∀ w, wres 0 w = c64 0 := fun w => (wdr_zero zero_val.1).2 w
                    have zx3 : (ford .f64 (cn .f64 (c64 0)) (cn .f64 4562254508917369340) == some .gt) = false := by decide +kernel
                    have HW2 : Hid (Below w11.heap.size w11 wx) := Lib.hid (by rw [hwx]; exact below_drewN HW.out _)
                    rw [← hwx]
                    clear hwx HW c0 x0 L1 L2 L3
                    go_wp2_with fail
                    go_quiet ((first | (go_at_call 9; exact Calls.quiet_of_same (LO1 _)) | (go_at_call 9; exact Calls.quiet_of_same (LO2 _))))
                    go_wp2_with fail
                    exact ⟨⟨k + 1, by omega, by go_num, Lib.hid (below_drewN HW2.out _)⟩, by simp [intOf]; omega⟩
                  · obtain rfl : k = Ss.length := by omega
                    go_wp2
                    go_ret
                    exact ⟨rfl, Below.step HK12.out HW.out⟩
end Go.Proofs.Ytdodmfojbbmbdaa
