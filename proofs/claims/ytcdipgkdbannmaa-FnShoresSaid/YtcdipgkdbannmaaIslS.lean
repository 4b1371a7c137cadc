/- IslandsOver, the reference's side. -/
import Derived.Test.YtcdipgkdbannmaaIslI
import Derived.BigGuardPart
namespace Go.Proofs.Ytcdipgkdbannmaa
open Go.RowKit

def bv (b : Bool) : Value := .bool b
theorem info.bool : (Try.prog.info? 4).map (fun i => (i.zero, i.size, i.bytes)) = some (some (.bool false), 1, 1) := by kernel_rfl
theorem made_bool (N : Nat) : (madeCells #[.bool false] N).toList = (List.replicate N false).map bv := by
  apply List.ext_getElem
  · rw [Array.length_toList, size_madeCells]; simp
  · intro i h1 h2
    have hi : i < N := by simpa using h2
    simp [madeCells, Nat.mod_one, bv]
theorem l00Max_any (a b : Nat) (w : World) : Calls Try.prog 50 #[.int .i64 a, .int .i64 b] w fun e w' => e = .returned (.int .i64 (max a b : Nat)) ∧ w = w' := by
  by_cases h : (b : Int) < a
  · have h2 := Lib.hid (show (a : Int) = ((max a b : Nat) : Int) by omega)
    go_enter Try.func50, Try.ntmps50
    go_wp2
    go_ret
    exact ⟨ret_int h2.out, rfl⟩
  · have h2 := Lib.hid (show (b : Int) = ((max a b : Nat) : Int) by omega)
    go_enter Try.func50, Try.ntmps50
    go_wp2
    all_goals (first | (exfalso; omega) | skip)
    all_goals
      go_ret
      exact ⟨ret_int h2.out, rfl⟩
theorem own_lt3 {B b : Nat} {w : World} {o : Nat} {xs : List Value} (h : OwnS B w (some ⟨b, o, none⟩) xs) : b < w.heap.size := (h.2.2 b ⟨o, rfl⟩).2
set_option maxRecDepth 100000 in
set_option maxHeartbeats 4000000 in
theorem specIs_yes (W H : Nat) (A : Option Addr) (c : Nat) (xs : List Nat) (lev : Nat) (w : World) (hA : FRd w A xs) (hn : xs.length ≤ maxLen) (hs : shB W H xs = true) (hl : finB (cn .f32 lev) = true) :
    Calls Try.prog 23 #[shv W H A xs.length c, .float .f32 lev] w (IsR w W H (ovB (cl xs) (cn .f32 lev))) := by
  obtain ⟨i0, hi0, hz0, hz1, hz2⟩ := info_parts info.bool
  obtain ⟨j0, hj0, jz0, jz1, jz2⟩ := info_parts info.i64
  obtain ⟨w0, hw0⟩ : ∃ w0, w0 = w.alloc (.cells #[.int .i64 W, .int .i64 H, .slice A xs.length c] 29) := ⟨_, rfl⟩
  have k0 : Below w.heap.size w w0 := by rw [hw0]; exact below_alloc _ _
  have sb : BoxS w0 w.heap.size W H A xs.length c := by rw [hw0]; exact boxS_new _ _ _ _ _ _ _ _ rfl
  have hA1 := Rd.below hA k0
  obtain ⟨sw1, sw2, sh1, sh2, sl, sf⟩ := shB_all hs
  have hWn : 1 ≤ W ∧ W ≤ 17 := by omega
  have hHn : 1 ≤ H ∧ H ≤ 17 := by omega
  have hlen : xs.length = W * H := by have : ((xs.length : Nat) : Int) = ((W * H : Nat) : Int) := by rw [sl]; push_cast; rfl
                                      omega
  have hm : xs.length ≤ 289 := by rw [hlen]; exact Nat.le_trans (Nat.mul_le_mul hWn.2 hHn.2) (by decide)
  have HLEN := Lib.hid hlen
  clear hlen sl
  go_enter Try.func23, Try.ntmps23
  go_wp2_with fail
  rw [← hw0]
  clear hw0
  refine (l05Is_any _ W H A c xs _ hA1 hn sb.c0 sb.c1 sb.c2).mono ?_
  rintro e w1 ⟨rfl, n1, hw1⟩
  rw [hs]
  have sb : BoxS w1 w.heap.size W H A xs.length c := by rw [hw1]; exact sb.drewN _
  have hA2 : FRd w1 A xs := by rw [hw1]; exact hA1
  have K1 : Below w.heap.size w w1 := by rw [hw1]; exact below_drewN k0 _
  clear hw1 hA1 k0
  go_wp2_with fail
  refine (l01Finite_any _ _).mono ?_
  rintro e w2 ⟨rfl, n2, hw2⟩
  rw [hl]
  have sb : BoxS w2 w.heap.size W H A xs.length c := by rw [hw2]; exact sb.drewN _
  have hA3 : FRd w2 A xs := by rw [hw2]; exact hA2
  have K2 : Below w.heap.size w w2 := by rw [hw2]; exact below_drewN K1 _
  clear hw2 hA2 K1
  obtain ⟨s_, s0, s1, s2⟩ := sb
  have s2_ := s_
  go_wp2_with (first | (at_make; refine wpList_make_full _ rfl _ _ 70 rfl w2.heap.size 4 i0 (.bool false) 1 Try.underlying70 hi0 hz0 hz1 _ _ _ _ xs.length rfl rfl rfl rfl (by rw [hz2]; omega) (by unfold maxLen; omega) (Nat.le_refl _) ?_))
  intro w3 hown hgrow
  have k3 : Below w2.heap.size w2 w3 := (Below.refl _ _).grown hgrow (Nat.le_refl _) (fun k h => by cases h)
  have oS : OwnS w2.heap.size w3 (some ⟨w2.heap.size, 0, none⟩) ((List.replicate xs.length false).map bv) := by have h := OwnS.of_own hown; rw [made_bool] at h; exact h
  obtain ⟨s_, s0, s1, s2⟩ := (BoxS.mk s_ s0 s1 s2).below k3
  have hA4 := Rd.below hA3 k3
  have K3 := Below.step K2 k3
  have sw_ := s2_
  have hA3lt : ∀ b, InA A b → b < w2.heap.size := fun b ⟨o, e⟩ => by
    have hz : 0 < xs.length := by rw [HLEN.out]; exact Nat.mul_pos hWn.1 hHn.1
    obtain ⟨b', o', e', hlt, _⟩ := hA3.at_ hz
    rw [e] at e'
    injection e' with e'
    injection e' with e1 e2
    omega
  clear hown hgrow k3 K2 hA3
  go_wp2_with fail
  have oS0 := oS
  obtain ⟨N, hN⟩ : ∃ N, N = xs.length := ⟨_, rfl⟩
  rw [← hN] at hm oS
  have HN := Lib.hid hN
  have z3 := own_lt3 oS
  have zw : w.heap.size < w2.heap.size := sw_
  have hAlt : ∀ b, InA A b → b < w2.heap.size := hA3lt
  have SB3 := Lib.hid (BoxS.mk s_ s0 s1 s2)
  go_loopw [8, 9, 29] (fun nv mv kv wr => ∃ (k : Nat) (S : List Bool) (cs : List Nat), k ≤ N ∧ kv = .int .i64 k ∧ nv = .int .i64 cs.length ∧ mv = .int .i64 (maxL cs) ∧ S.length = N ∧ OwnS w2.heap.size wr (some ⟨w2.heap.size, 0, none⟩) (S.map bv) ∧ Keep (fun b => b = w2.heap.size) w3 wr ∧ Hid (Isl (nbL W H) (ovB (cl xs) (cn .f32 lev)) N k S cs)) (fun _ _ kv _ => N - (intOf kv).toNat)
  case atStart => exact ⟨0, List.replicate N false, [], Nat.zero_le _, rfl, rfl, rfl, by simp, oS, Keep.refl _ _, Lib.hid .zero⟩
  case round =>
    clear oS oS0
    obtain ⟨k, S, cs, hk, rfl, rfl, rfl, hSl, oS, KP, HI⟩ := hrel
    obtain ⟨s_, s0, s1, s2⟩ := (BoxS.mk s_ s0 s1 s2).keep KP (by show ¬ w.heap.size = w2.heap.size; omega)
    by_cases hlt : k < N
    · have hki : (k : Int) < N := by omega
      have hkx : (k : Int) < xs.length := by rw [← HN.out]; exact hki
      have hAr : FRd wr A xs := Rd.keepA hA4 KP (fun b hb e => by have := hAlt b hb; have e : b = w2.heap.size := e; omega)
      obtain ⟨b, o, rfl, hb, hc⟩ := hAr.at_ (show k < xs.length by rw [← HN.out]; exact hlt)
      have HOV := Lib.hid (ovB_at (xs := xs) (lev := lev) (i := k) (by rw [← HN.out]; exact hlt))
      generalize xs[k]'(by rw [← HN.out]; exact hlt) = v at hc HOV
      obtain ⟨_, _, e1, _, hcS⟩ := oS.1 k (bv (S[k]'(by omega))) (by simp [show k < S.length by omega])
      injection e1 with e1
      injection e1 with e2 e3
      subst e2; subst e3
      rw [Nat.zero_add] at hcS
      have HAT : Hid (at? S k = S[k]'(by omega)) := Lib.hid (by simp [at?, show k < S.length by omega])
      generalize S[k]'(by omega) = sb at hcS HAT
      rw [show bv sb = .bool sb from rfl] at hcS
      cases sb
      · by_cases hov : (ford .f32 (cn .f32 v) (cn .f32 lev) == some .gt) = true
        · have HF : Hid (ovB (cl xs) (cn .f32 lev) k = true) := Lib.hid (HOV.out.trans hov)
          have fS : wr.frozen? ⟨w2.heap.size, k, none⟩ = false := by
            obtain ⟨b2, o2, e2, _, _, hfz⟩ := oS.2.1 k (by simp; omega)
            injection e2 with e2
            injection e2 with e3 e4
            subst e3; subst e4
            rw [Nat.zero_add] at hfz
            exact hfz
          have HFL : Hid (FlM (nbL W H) (ovB (cl xs) (cn .f32 lev)) S k (S.set k true) [k] 0 0 []) := Lib.hid (FlM.start (by omega) HAT.out)
          go_wp2_with fail
          obtain ⟨w4, hw4⟩ : ∃ w4, w4 = wr.setCell ⟨w2.heap.size, k, none⟩ (.bool true) := ⟨_, rfl⟩
          have k4 : Keep (fun b => b = w2.heap.size) w3 w4 := by rw [hw4]; exact KP.setCell (.inl rfl) _
          have oS4 : OwnS w2.heap.size w4 (some ⟨w2.heap.size, 0, none⟩) ((S.set k true).map bv) := by
            have h := own_setG (k := k) (v := bv true) oS (by simp; omega)
            rw [Nat.zero_add] at h
            rw [hw4, List.map_set]; exact h
          have hz4 : wr.heap.size ≤ w4.heap.size ∧ w4.heap.size ≤ wr.heap.size := by rw [hw4]; simp [World.setCell]
          obtain ⟨hz4a, hz4b⟩ := hz4
          have oN := own_one w4 2 (.int .i64 k)
          rw [← hw4]
          obtain ⟨w5, hw5⟩ : ∃ w5, w5 = w4.alloc (.cells #[.int .i64 k] 2) := ⟨_, rfl⟩
          rw [← hw5] at oN
          rw [← hw5]
          have k45 : Below w4.heap.size w4 w5 := by rw [hw5]; exact below_alloc _ _
          have oS5 := oS4.below k45
          have KP5 := k4.trans (Keep.of_below k45)
          obtain ⟨bz, hbz⟩ : ∃ n, n = wr.heap.size := ⟨_, rfl⟩
          have hz4e : w4.heap.size = bz := by omega
          rw [hz4e] at oN
          rw [← hbz]
          have hzb : w3.heap.size ≤ bz := by rw [hbz]; exact KP.size
          have hz5 : bz ≤ w5.heap.size := by rw [← hz4e]; exact k45.size
          have HI0 := Lib.hid HI.out.closed
          clear hw4 hw5 k4 k45 oS4 oS hz4a hz4b hz4e hbz KP hc hcS fS hAr hov HOV
          go_loopw [11, 12] (fun lv jw wr => ∃ (j q0 : Nat) (S' : List Bool) (ls : List Nat), j ≤ ls.length ∧ jw = .int .i64 j ∧ S'.length = N ∧ OwnS w2.heap.size wr (some ⟨w2.heap.size, 0, none⟩) (S'.map bv) ∧ wr.ownsRow bz 2 1 lv ls.length (ls.map iv) ∧ Keep (fun b => b = w2.heap.size) w3 wr ∧ bz ≤ wr.heap.size ∧ Hid (FlM (nbL W H) (ovB (cl xs) (cn .f32 lev)) S k S' (ls.drop j) j q0 [])) (fun _ jw _ => N - (intOf jw).toNat)
          case atStart => exact ⟨0, 0, S.set k true, [k], by simp, rfl, by rw [List.length_set]; exact hSl, oS5, oN, KP5, hz5, HFL⟩
          case round =>
            clear oS5 oN KP5 hz5 HFL
            obtain ⟨j, q0, S', ls, hj, rfl, hSl', oS, oL, KP, hzr, HFL⟩ := hrel
            have hcnt : ls.length ≤ N := by
              have h1 := HFL.out.cnt
              have h2 := cntT_le S'
              rw [List.length_drop] at h1
              omega
            obtain ⟨AL, cL, hlv⟩ := own_slice oL
            subst hlv
            by_cases hjl : j < ls.length
            · have hji : (j : Int) < ls.length := by omega
              have HDR := Lib.hid (List.drop_eq_getElem_cons hjl)
              obtain ⟨gl, hAL, hgl1, hgl2⟩ := own_some oL (by omega)
              subst hAL
              have cQ : wr.cell? ⟨gl, j, none⟩ = some (.int .i64 (ls[j] : Nat)) := by rw [oL.cellAt j (by omega)]; simp [iv, hjl]
              generalize ls[j] = q at cQ HDR
              have hqN : q < N := by
                have h1 := (HFL.out.own q (.inl (by rw [HDR.out]; exact List.mem_cons_self ..))).1
                have h2 := at_lt h1
                omega
              obtain ⟨s_, s0, s1, s2⟩ := SB3.out.keep KP (by show ¬ w.heap.size = w2.heap.size; omega)
              have B := l05Beside_any W H q w.heap.size wr hWn hHn (by rw [← HLEN.out, ← HN.out]; exact hqN) s0 s1
              have B := Lib.hid B
              clear s0 s1 s2
              go_wp2_with fail
              refine B.out.mono ?_
              rintro e w6 ⟨An, cn6, rfl, oN, k6⟩
              have hnb : ∀ b, InA An b → wr.heap.size ≤ b ∧ b < w6.heap.size := oN.2.2
              have oS6 := oS.below k6
              have oL6 := own_keepG oL (Keep.of_below (S := fun _ => False) k6) (fun _ _ h => h)
              have KP6 := KP.trans (Keep.of_below k6)
              have hz6 := k6.size
              have rN6 := oN.1
              have HNB : Hid (FlM (nbL W H) (ovB (cl xs) (cn .f32 lev)) S k S' (ls.drop (j + 1)) (j + 1) q (nbL W H q)) := Lib.hid (HFL.out.pop (by rw [HDR.out]; exact List.mem_cons_self ..) (fun x hx => by rw [HDR.out] at hx; exact List.mem_cons.1 hx) (fun x hx => by rw [HDR.out]; exact List.mem_cons_of_mem _ hx) (by rw [HDR.out]; rfl))
              have hln := nbL_len W H q
              obtain ⟨nl, hnl⟩ : ∃ nl, nl = nbL W H q := ⟨_, rfl⟩
              rw [← hnl] at rN6 HNB hln
              rw [← hnl]
              have hnM : ∀ x ∈ nl, x < N := fun x hx => by rw [HN.out, HLEN.out]; rw [hnl] at hx; exact nbL_lt (by rw [← HLEN.out, ← HN.out]; exact hqN) hx
              have HNM := Lib.hid hnM
              clear hnM hnl oS oL KP B HFL k6 oN cQ
              go_wp2_with fail
              go_loopw [11, 64] (fun lv iw wr => ∃ (i : Nat) (S2 : List Bool) (ls2 : List Nat), i ≤ nl.length ∧ iw = .int .i64 i ∧ S2.length = N ∧ j + 1 ≤ ls2.length ∧ OwnS w2.heap.size wr (some ⟨w2.heap.size, 0, none⟩) (S2.map bv) ∧ wr.ownsRow bz 2 1 lv ls2.length (ls2.map iv) ∧ (∀ g, lv.ownBlock = some g → ¬ InA An g) ∧ Rd wr An (nl.map iv) ∧ Keep (fun b => b = w2.heap.size) w3 wr ∧ w6.heap.size ≤ wr.heap.size ∧ Hid (FlM (nbL W H) (ovB (cl xs) (cn .f32 lev)) S k S2 (ls2.drop (j + 1)) (j + 1) q (nl.drop i))) (fun _ iw _ => nl.length - (intOf iw).toNat)
              case atStart => exact ⟨0, S', ls, Nat.zero_le _, rfl, hSl', hjl, oS6, oL6, fun g h hn => by have h : gl = g := (by injection h); have := (hnb g hn).1; omega, rN6, KP6, Nat.le_refl _, HNB⟩
              case round =>
                clear oS6 oL6 KP6 rN6 HNB
                obtain ⟨i, S2, ls2, hi, rfl, hS2, hj2, oS, oL, hap, rN, KP, hz9, HFL⟩ := hrel
                by_cases hil : i < nl.length
                · have hii : (i : Int) < nl.length := by omega
                  have hxN := HNM.out _ (List.getElem_mem hil)
                  have HFD : Hid (FlM (nbL W H) (ovB (cl xs) (cn .f32 lev)) S k S2 (ls2.drop (j + 1)) (j + 1) q (nl[i] :: nl.drop (i + 1))) := Lib.hid (by rw [← List.drop_eq_getElem_cons hil]; exact HFL.out)
                  obtain ⟨bn, obn, hAn, hbn, cN'⟩ := rN i (iv nl[i]) (by simp [hil])
                  subst hAn
                  have cN : wr.cell? ⟨bn, obn + i, none⟩ = some (.int .i64 (nl[i] : Nat)) := cN'
                  clear cN'
                  generalize nl[i] = x at hxN HFD cN
                  have hxi : (x : Int) < N := by omega
                  have hxx : (x : Int) < xs.length := by rw [← HN.out]; exact hxi
                  have hxl : x < xs.length := by rw [← HN.out]; exact hxN
                  obtain ⟨s_, s0, s1, s2⟩ := SB3.out.keep KP (by show ¬ w.heap.size = w2.heap.size; omega)
                  have hAr : FRd wr (some ⟨b, o, none⟩) xs := Rd.keepA hA4 KP (fun b' hb' e => by have := hAlt b' hb'; have e : b' = w2.heap.size := e; omega)
                  obtain ⟨b7, o7, e7, hb7, hc⟩ := hAr.at_ hxl
                  injection e7 with e7
                  injection e7 with e8 e9
                  subst e8; subst e9
                  have HOV := Lib.hid (ovB_at (xs := xs) (lev := lev) (i := x) hxl)
                  generalize xs[x] = v2 at hc HOV
                  obtain ⟨_, _, e1, _, hcS⟩ := oS.1 x (bv (S2[x]'(by omega))) (by simp [show x < S2.length by omega])
                  injection e1 with e1
                  injection e1 with e2 e3
                  subst e2; subst e3
                  rw [Nat.zero_add] at hcS
                  have HAT2 : Hid (at? S2 x = S2[x]'(by omega)) := Lib.hid (by simp [at?, show x < S2.length by omega])
                  generalize S2[x]'(by omega) = sx at hcS HAT2
                  rw [show bv sx = .bool sx from rfl] at hcS
                  clear HFL hAr
                  cases sx
                  · by_cases hov : (ford .f32 (cn .f32 v2) (cn .f32 lev) == some .gt) = true
                    · have fX : wr.frozen? ⟨w2.heap.size, x, none⟩ = false := by
                        obtain ⟨b9, o9, e9, _, _, hfz⟩ := oS.2.1 x (by simp; omega)
                        injection e9 with e9
                        injection e9 with e3 e4
                        subst e3; subst e4
                        rw [Nat.zero_add] at hfz
                        exact hfz
                      have hopl : ls2.length + 1 ≤ N := by
                        have h1 := HFD.out.cnt
                        have h2 := cntT_set (S := S2) (k := x) (by omega) HAT2.out
                        have h3 := cntT_le (S2.set x true)
                        rw [List.length_set] at h3
                        rw [List.length_drop] at h1
                        omega
                      obtain ⟨Ax, cx, hvx⟩ := own_slice oL
                      subst hvx
                      have hbn3 := (hnb bn ⟨obn, rfl⟩).1
                      go_wp2_with fail
                      go_quiet (fail)
                      go_upto_region 21 with fail
                      obtain ⟨w10, hw10⟩ : ∃ w10, w10 = (World.drewN wr nq).setCell ⟨w2.heap.size, x, none⟩ (.bool true) := ⟨_, rfl⟩
                      have k10 : Keep (fun b => b = w2.heap.size) wr w10 := by rw [hw10]; exact ((Keep.refl (fun b => b = w2.heap.size) wr).drewN nq).setCell (.inl rfl) _
                      have oSx : OwnS w2.heap.size w10 (some ⟨w2.heap.size, 0, none⟩) ((S2.set x true).map bv) := by
                        have h := own_setG (k := x) (v := bv true) (oS.drewN nq) (by simp; omega)
                        rw [Nat.zero_add] at h
                        rw [hw10, List.map_set]; exact h
                      have oLx := own_keepG oL k10 (fun g h e => by have := (oL.lt g h).1; have e : g = w2.heap.size := e; omega)
                      have rNx := rN.keepA k10 (fun b h e => by obtain ⟨o9, ho⟩ := h; injection ho with ho; injection ho with h1 h2; have e : b = w2.heap.size := e; omega)
                      have KPx := KP.trans (k10.weak (fun _ _ h => h))
                      have hz10 : wr.heap.size ≤ w10.heap.size ∧ w10.heap.size ≤ wr.heap.size := by rw [hw10]; simp [World.setCell]
                      obtain ⟨hz10a, hz10b⟩ := hz10
                      have cNx : w10.cell? ⟨bn, obn + i, none⟩ = some (.int .i64 x) := (k10.cell hbn (by show ¬ bn = w2.heap.size; omega)).trans cN
                      rw [← hw10]
                      clear hw10 k10 oS oL rN KP hcS cN fX hc
                      have hz3w : w3.heap.size ≤ w10.heap.size := KPx.size
                      go_wp2_with (at_builtin; refine wpList_pushK rfl _ _ 71 rfl bz 2 j0 (.int .i64 0) 8 Try.underlying71 hj0 jz0 jz1 jz2 rfl _ ls2.length (ls2.map iv) rfl oLx _ rfl rfl (by unfold maxLen; omega) (by omega) (by omega) ?_)
                      intro v11 w11 ho11 kk11 hp11
                      have S2' : ∀ g, (Value.slice Ax ls2.length cx).ownBlock = some g → bz ≤ g := fun g h => (oLx.lt g h).1
                      have oSy := oSx.keep kk11 (fun b hb e => by have := S2' b e; obtain ⟨o9, ho⟩ := hb; injection ho with ho; injection ho with h1 h2; omega)
                      have rNy := rNx.keepA kk11 (fun b h e => hap b e h)
                      have KPy : Keep (fun b => b = w2.heap.size) w3 w11 := ⟨kk11.os.trans KPx.os, kk11.tape.trans KPx.tape, kk11.output.trans KPx.output, Nat.le_trans KPx.size kk11.size, fun b hb hs => (kk11.block b (by omega) (fun e => by have := S2' b e; omega)).trans (KPx.block b hb hs)⟩
                      have hapy : ∀ g, v11.ownBlock = some g → ¬ InA (some ⟨bn, obn, none⟩) g := fun g h hn => by
                        rcases hp11 g h with h2 | h2
                        · exact hap g h2 hn
                        · obtain ⟨o9, ho⟩ := hn
                          injection ho with ho
                          injection ho with h3 h4
                          omega
                      have hzy := kk11.size
                      have HFP : Hid (FlM (nbL W H) (ovB (cl xs) (cn .f32 lev)) S k (S2.set x true) ((ls2 ++ [x]).drop (j + 1)) (j + 1) q (nl.drop (i + 1))) := Lib.hid (by rw [List.drop_append_of_le_length hj2]; exact HFD.out.push (HOV.out.trans hov) HAT2.out (by omega))
                      have ho11' : w11.ownsRow bz 2 1 v11 (ls2 ++ [x]).length ((ls2 ++ [x]).map iv) := by rw [List.length_append, List.map_append]; exact ho11
                      have hS3 : (S2.set x true).length = N := by rw [List.length_set]; exact hS2
                      have hj3 : j + 1 ≤ (ls2 ++ [x]).length := by simp; omega
                      clear ho11 kk11 hp11 oSx oLx rNx KPx S2' HFD
                      go_wp2
                      refine ⟨⟨i + 1, S2.set x true, ls2 ++ [x], by omega, by go_num, hS3, hj3, oSy, ho11', hapy, rNy, KPy, by omega, HFP⟩, ?_⟩
                      simp [intOf]
                      omega
                    · have hov : (ford .f32 (cn .f32 v2) (cn .f32 lev) == some .gt) = false := by simpa using hov
                      go_wp2_with fail
                      go_quiet (fail)
                      go_wp2
                      refine ⟨⟨i + 1, S2, ls2, by omega, by go_num, hS2, hj2, oS.drewN _, by exact oL, hap, rN.drewN _, KP.drewN _, by exact hz9, Lib.hid (HFD.out.skip (.inl (HOV.out.trans hov)))⟩, ?_⟩
                      simp [intOf]
                      omega
                  · go_wp2_with fail
                    go_quiet (fail)
                    go_wp2
                    refine ⟨⟨i + 1, S2, ls2, by omega, by go_num, hS2, hj2, oS.drewN _, by exact oL, hap, rN.drewN _, KP.drewN _, by exact hz9, Lib.hid (HFD.out.skip (.inr HAT2.out))⟩, ?_⟩
                    simp [intOf]
                    omega
                · obtain rfl : i = nl.length := by omega
                  have HFE : Hid (FlM (nbL W H) (ovB (cl xs) (cn .f32 lev)) S k S2 (ls2.drop (j + 1)) (j + 1) q []) := Lib.hid (by have e := HFL.out; rw [List.drop_length] at e; exact e)
                  clear HFL
                  go_wp2
                  refine ⟨⟨j + 1, q, S2, ls2, hj2, by go_num, hS2, oS, oL, KP, by omega, HFE⟩, ?_⟩
                  simp [intOf]
                  omega
            · obtain rfl : j = ls.length := by omega
              have HFE : Hid (FlM (nbL W H) (ovB (cl xs) (cn .f32 lev)) S k S' [] ls.length q0 []) := Lib.hid (by have e := HFL.out; rw [List.drop_length] at e; exact e)
              clear HFL
              obtain ⟨hcm, hcc, hcl⟩ := HFE.out.done HI0.out
              have HN2 : Hid (Isl (nbL W H) (ovB (cl xs) (cn .f32 lev)) N (k + 1) S' (cs ++ [ls.length])) := Lib.hid (.take HI.out HF.out HAT.out hcm hcc hcl)
              clear hcm hcc hcl
              have hcs : cs.length ≤ N := Nat.le_trans HI.out.few hk
              have hmx : maxL cs ≤ N := maxL_le HI.out.small
              have HM : Hid (maxL (cs ++ [ls.length]) = max (maxL cs) ls.length) := Lib.hid (maxL_snoc _ _)
              generalize maxL cs = mm at HM hmx
              go_wp2_with fail
              refine (l00Max_any _ _ _).mono ?_
              rintro e w9 ⟨rfl, rfl⟩
              rw [← HM.out]
              go_wp2
              refine ⟨⟨k + 1, S', cs ++ [ls.length], by omega, by go_num, by simp, rfl, hSl', oS, KP, HN2⟩, ?_⟩
              simp [intOf]
              omega
        · have hov : (ford .f32 (cn .f32 v) (cn .f32 lev) == some .gt) = false := by simpa using hov
          have HF : Hid (ovB (cl xs) (cn .f32 lev) k = false) := Lib.hid (HOV.out.trans hov)
          go_wp2
          refine ⟨⟨k + 1, S, cs, by omega, by go_num, rfl, rfl, hSl, oS, KP, Lib.hid (.skip HI.out (.inl HF.out))⟩, ?_⟩
          simp [intOf]
          omega
      · go_wp2
        refine ⟨⟨k + 1, S, cs, by omega, by go_num, rfl, rfl, hSl, oS, KP, Lib.hid (.skip HI.out (.inr HAT.out))⟩, ?_⟩
        simp [intOf]
        omega
    · obtain rfl : k = N := by omega
      have KR : Below w.heap.size w wr := Keep.below K3 KP (by omega) (fun g h => by have h : g = w2.heap.size := h; omega)
      go_wp2
      exact bodyPost_ret (v := .tuple #[.int .i64 cs.length, .int .i64 (maxL cs), .bool true]) (by simp [results, Try.results23, go_sem]) rfl ⟨S, cs, by rw [← HLEN.out, ← HN.out]; exact HI.out, rfl, KR⟩
end Go.Proofs.Ytcdipgkdbannmaa
