/- Several texts in one: Ra, Rb, Rc. -/
import Derived.Test.YtamgekijihpgkaaMg
import Derived.Test.YtamgekijihpgkaaPhE
import Derived.Test.YtamgekijihpgkaaMb
import Derived.Test.YtamgekijihpgkaaSr
import Derived.Deep.RegionLaw
import Derived.Deep.RegionHeld3
import Derived.BigRegion
/- Small functions of complex numbers: sums, products, powers. -/
namespace Go.Proofs.Ytamgekijihpgkaa
open Go.RowKit Ieee

theorem add_any (a b c d : Nat) (w : World) : Calls Try.prog 29 #[.complex .f32 a b, .complex .f32 c d] w (CplR w (fop .add .f32 (cn .f32 a) (cn .f32 c), fop .add .f32 (cn .f32 b) (cn .f32 d))) := by
  go_enter Try.func29, Try.ntmps29
  go_wp2
  go_ret
  exact ⟨_, _, _, rfl, by simp only [cn_fres], by simp only [cn_fres], rfl⟩
theorem scale_any (a b k : Nat) (w : World) : Calls Try.prog 30 #[.complex .f32 a b, .float .f32 k] w (CplR w (fop .mul .f32 (cn .f32 a) (cn .f32 k), fop .mul .f32 (cn .f32 b) (cn .f32 k))) := by
  go_enter Try.func30, Try.ntmps30
  go_wp2
  go_ret
  exact ⟨_, _, _, rfl, by simp only [cn_fres], by simp only [cn_fres], rfl⟩
def pw64 (a b : Nat) : Nat := fop .add .f64 (fop .mul .f64 (c64 a) (c64 a)) (fop .mul .f64 (c64 b) (c64 b))
structure PwD (a b : Nat) : Prop where
  wa : wdr a = 0 ∧ ∀ w, wres a w = c64 a
  wb : wdr b = 0 ∧ ∀ w, wres b w = c64 b
  ma : (∀ w, fres .mul .f64 (c64 a) (c64 a) w = fop .mul .f64 (c64 a) (c64 a)) ∧ fdr .mul .f64 (c64 a) (c64 a) = 0
  mb : (∀ w, fres .mul .f64 (c64 b) (c64 b) w = fop .mul .f64 (c64 b) (c64 b)) ∧ fdr .mul .f64 (c64 b) (c64 b) = 0
  s : (∀ w, fres .add .f64 (fop .mul .f64 (c64 a) (c64 a)) (fop .mul .f64 (c64 b) (c64 b)) w = pw64 a b) ∧ fdr .add .f64 (fop .mul .f64 (c64 a) (c64 a)) (fop .mul .f64 (c64 b) (c64 b)) = 0
  fit : nfit (pw64 a b) = true
  n : ndr (pw64 a b) = 0 ∧ ∀ w, nres (pw64 a b) w = pwF a b
theorem pwD_of {a b : Nat} (ha : isF .f32 a) (hb : isF .f32 b) (a1 : ab (rv .f32 a) ≤ 100) (b1 : ab (rv .f32 b) ≤ 100) : PwD a b := by
  obtain ⟨M1, X⟩ := (Ap.self ha).c64.mul 100 100 10000 (Ap.self ha).c64 a1 a1 (by decide +kernel) (by decide +kernel)
  obtain ⟨M2, Y⟩ := (Ap.self hb).c64.mul 100 100 10000 (Ap.self hb).c64 b1 b1 (by decide +kernel) (by decide +kernel)
  have X' := X.w (F := 1) (by decide +kernel)
  have Y' := Y.w (F := 1) (by decide +kernel)
  have m1 := mul_sm a1 a1
  have m2 := mul_sm b1 b1
  obtain ⟨S1, S⟩ := X'.add 20002 Y' (by
    have t := ab_add (rv .f32 a * rv .f32 a) (rv .f32 b * rv .f32 b)
    generalize ab (rv .f32 a * rv .f32 a) = p at *
    generalize ab (rv .f32 b * rv .f32 b) = q at *
    generalize ab (rv .f32 a * rv .f32 a + rv .f32 b * rv .f32 b) = r at *
    clear X Y X' Y' M1 M2
    grind) (by decide +kernel)
  have bS : ab (rv .f64 (pw64 a b)) ≤ 100000 := by
    have t := ab_of_near S.2
    have t2 := ab_add (rv .f32 a * rv .f32 a) (rv .f32 b * rv .f32 b)
    have e : ep .f64 * (20002 + 1) ≤ 1 := by decide +kernel
    unfold pw64
    generalize ab (rv .f32 a * rv .f32 a) = p at *
    generalize ab (rv .f32 b * rv .f32 b) = q at *
    generalize ab (rv .f32 a * rv .f32 a + rv .f32 b * rv .f32 b) = r at *
    generalize ep .f64 * (20002 + 1) = z at *
    clear X Y X' Y' M1 M2 S1 S
    grind
  have hS : isF .f64 (pw64 a b) := S.1
  obtain ⟨n1, _⟩ := narrow_val hS (Rat.le_trans bS (Rat.le_trans (by decide +kernel) big32))
  obtain ⟨n2, n3⟩ := ndr_zero hS
  refine ⟨wdr_zero ha, wdr_zero hb, ⟨M1.res, M1.dr⟩, ⟨M2.res, M2.dr⟩, ⟨S1.res, S1.dr⟩, n1, n2, fun w => ?_⟩
  rw [n3]
  show n32 (pw64 a b) = n32 (cn .f64 (pw64 a b))
  rw [hS.cn]
theorem parts_any (a b : Nat) (D : PwD a b) (w : World) : Calls Try.prog 60 #[.complex .f32 a b] w fun e w' => e = .returned (.tuple #[.float .f64 (c64 a), .float .f64 (c64 b)]) ∧ w' = w := by
  obtain ⟨a1, a2⟩ := D.wa
  obtain ⟨b1, b2⟩ := D.wb
  have dz : ∀ v : World, v.drewN 0 = v := fun _ => rfl
  clear D
  go_enter Try.func60, Try.ntmps60
  go_wp2
  go_ret2
  exact ⟨rfl, rfl⟩
theorem power_any (a b : Nat) (D : PwD a b) (w : World) : Calls Try.prog 52 #[.complex .f32 a b] w fun e w' => e = .returned (.float .f64 (pw64 a b)) ∧ w' = w := by
  obtain ⟨a1, a2⟩ := D.ma
  obtain ⟨b1, b2⟩ := D.mb
  obtain ⟨s1, s2⟩ := D.s
  have dz : ∀ v : World, v.drewN 0 = v := fun _ => rfl
  have HD := Lib.hid D
  clear D
  go_enter Try.func52, Try.ntmps52
  go_wp2_with (go_at_call 60; refine (parts_any _ _ HD.out _).mono ?_; rintro e w' ⟨rfl, rfl⟩)
  go_ret
  exact ⟨rfl, rfl⟩
theorem powerOf_any (a b : Nat) (D : PwD a b) (w : World) : Calls Try.prog 31 #[.complex .f32 a b] w fun e w' => e = .returned (.float .f32 (pwF a b)) ∧ w' = w := by
  have NW := fun w => run_narrow (P := Try.prog) w 35 25 _ (by kernel_rfl) Try.underlying25 D.fit
  obtain ⟨n1, n2⟩ := D.n
  have dz : ∀ v : World, v.drewN 0 = v := fun _ => rfl
  have HD := Lib.hid D
  clear D
  go_enter Try.func31, Try.ntmps31
  go_wp2_with (go_at_call 52; refine (power_any _ _ HD.out _).mono ?_; rintro e w' ⟨rfl, rfl⟩)
  go_ret
  exact ⟨rfl, rfl⟩
end Go.Proofs.Ytamgekijihpgkaa

/- PowersOfLine on lines whose powers are known. -/
namespace Go.Proofs.Ytamgekijihpgkaa
open Go.RowKit Ieee

/-- What the walk wants to know of a line. -/
structure LnF (n : Nat) (xs : List Nat) : Prop where
  len : xs.length = n
  lo : 9 ≤ n
  hi : n ≤ 19
  fin : finL xs = true
  pw : ∀ l, 1 ≤ l → l ≤ (n - 1) / 2 → PwD (rF n l (fun i => cn .f32 (xs.getD i 0)) n) (iF n l (fun i => cn .f32 (xs.getD i 0)) n) ∧ isN .f32 (rF n l (fun i => cn .f32 (xs.getD i 0)) n) = false ∧ isN .f32 (iF n l (fun i => cn .f32 (xs.getD i 0)) n) = false
  pf : ∀ l, 1 ≤ l → l ≤ (n - 1) / 2 → finB (cn .f32 (pwF (rF n l (fun i => cn .f32 (xs.getD i 0)) n) (iF n l (fun i => cn .f32 (xs.getD i 0)) n))) = true
def lnP (n : Nat) (xs : List Nat) (l : Nat) : Nat := pwF (rF n (l + 1) (fun i => cn .f32 (xs.getD i 0)) n) (iF n (l + 1) (fun i => cn .f32 (xs.getD i 0)) n)
def lnL (n : Nat) (xs : List Nat) (k : Nat) : List Nat := (List.range k).map (lnP n xs)
theorem lnL_succ (n : Nat) (xs : List Nat) (k : Nat) : lnL n xs (k + 1) = lnL n xs k ++ [lnP n xs k] := by simp [lnL, List.range_succ]
theorem info.f32' : (Try.prog.info? 25).map (fun i => (i.zero, i.size, i.bytes)) = some (some (.float .f32 0), 1, 4) := by kernel_rfl
theorem own_keepP {w w' : World} {base : Nat} {e : TypeId} {size : Nat} {v : Value} {n : Nat} {xs : List Value} {S : Nat → Prop} (h : w.ownsRow base e size v n xs) (k : Keep S w w') (hs : ∀ g, v.ownBlock = some g → ¬ S g) : w'.ownsRow base e size v n xs := by
  refine ⟨h.1, ?_⟩
  rcases h.2 with h2 | ⟨g, cap, cur, hv, hg, hh, hr⟩
  · exact .inl h2
  · refine .inr ⟨g, cap, cur, hv, hg, ?_, hr⟩
    have hlt : g < w.heap.size := by
      rcases Nat.lt_or_ge g w.heap.size with hlt | hge
      · exact hlt
      · rw [Array.getElem?_eq_none hge] at hh; cases hh
    rw [k.block g hlt (hs g (by rw [hv]; rfl))]
    exact hh
/-- The turns back: what the walk wants. -/
theorem ng_ok {n m : Nat} (h9 : 9 ≤ n) (h19 : n ≤ 19) (hm : m ≤ 200) : (∀ w, fres .quo .f64 (floatOfInt .f64 (m : Int)) (floatOfInt .f64 (n : Int)) w = fop .quo .f64 (floatOfInt .f64 (m : Int)) (floatOfInt .f64 (n : Int))) ∧ fdr .quo .f64 (floatOfInt .f64 (m : Int)) (floatOfInt .f64 (n : Int)) = 0 ∧ Kd (ngT n m) := by
  have hn1 : (1 : Rat) ≤ (n : Rat) := by
    have : ((1 : Nat) : Rat) ≤ (n : Rat) := Rat.natCast_le_natCast.2 (by omega)
    exact this
  have hm0 : (0 : Rat) ≤ (m : Rat) := by exact_mod_cast Nat.zero_le m
  have hm2 : (m : Rat) ≤ 200 := by
    have : (m : Rat) ≤ ((200 : Nat) : Rat) := Rat.natCast_le_natCast.2 hm
    exact this
  obtain ⟨i1, i2⟩ := ofInt_val (n := (m : Int)) (by omega)
  obtain ⟨j1, j2⟩ := ofInt_val (n := (n : Int)) (by omega)
  rw [Rat.intCast_natCast] at i2 j2
  have Q := ((Ap.exact i1 i2).quo 200 j1 j2 hn1 (by rw [ab_of_nonneg hm0]; grind) (by decide +kernel)).1
  obtain ⟨c1, c2⟩ := cnt_tab n (by omega) (by omega)
  have hU : Up .f64 (fop .quo .f64 (floatOfInt .f64 (m : Int)) (floatOfInt .f64 (n : Int))) 1034 := up_quo (R := 1034) (int_up (by omega) (by omega)) ⟨false, _, (word_f _ _).symm, c1, by
    have hI : FloatKind.f64.format.infRung = 2047 * 4503599627370496 := inf64
    rw [hI]
    generalize floatOfInt .f64 (n : Int) = d at *
    omega⟩ (by decide) (show 1 ≤ 1023 by decide) (by decide) (by rw [bias64]) (by decide)
  obtain ⟨s, r, hx, hr⟩ := neg_up hU (by omega)
  have hr' : r ≤ 1034 * 4503599627370496 := hr
  exact ⟨Q.res, Q.dr, .num s r hx (by omega)⟩
theorem X_at {xs : List Nat} {i : Nat} (h : i < xs.length) : cn .f32 (xs.getD i 0) = cn .f32 xs[i] := by
  rw [List.getD_eq_getElem?_getD, List.getElem?_eq_getElem h]
  rfl
set_option maxRecDepth 100000 in
set_option maxHeartbeats 4000000 in
theorem powers_any (A : Option Addr) (c n : Nat) (xs : List Nat) (w : World) (hA : FRd w A xs) (F : LnF n xs) :
    Calls Try.prog 9 #[.slice A xs.length c] w fun e w' => ∃ A' c', e = .returned (.tuple #[.slice A' ((n - 1) / 2) c', .bool true]) ∧ FRd w' A' (lnL n xs ((n - 1) / 2)) ∧ Below w.heap.size w w' := by
  obtain ⟨i0, hi0, hz0, hz1, hz2⟩ := info_parts info.f32'
  have hl := F.len
  have hlo := F.lo
  have hhi := F.hi
  have hfin := F.fin
  have HF := Lib.hid F
  clear F
  rw [hl]
  go_enter Try.func9, Try.ntmps9
  go_wp2_with fail
  rw [← hl]
  refine (areFinite_any _ _ xs _ hA (by unfold maxLen; omega)).mono ?_
  rintro e w1 ⟨rfl, m1, rfl⟩
  rw [hfin, hl]
  go_wp2_with fail
  obtain ⟨b0, hb0⟩ : ∃ b, b = w.heap.size := ⟨_, rfl⟩
  obtain ⟨w2, hw2⟩ : ∃ v, v = (w.drewN m1).alloc (.cells #[] 25) := ⟨_, rfl⟩
  have hO : Hid (w2.ownsRow b0 25 1 (.slice (some ⟨w.heap.size, 0, none⟩) 0 0) 0 []) := Lib.hid (by rw [hw2, hb0]; exact World.ownsRow_made (e := 25) (size := 1) (w.drewN m1) #[] 0 (Nat.le_refl _) (Nat.zero_le _) rfl)
  have K2 : Hid (Below w.heap.size w w2) := Lib.hid (by rw [hw2]; exact Below.step (below_drewN (Below.refl _ _) m1) (below_alloc _ _))
  have hz2' : b0 ≤ w2.heap.size := by rw [hb0]; exact K2.out.size
  have hwb : w.heap.size ≤ b0 := by omega
  rw [← hw2]
  clear hw2 hb0
  go_loopw [5, 6] (fun ov kv wr => ∃ (k kk : Nat), kv = .int .i64 kk ∧ Hid (kk = k + 1) ∧ 1 ≤ kk ∧ kk ≤ (n - 1) / 2 + 1 ∧ Hid (wr.ownsRow b0 25 1 ov k ((lnL n xs k).map fv)) ∧ Hid (Below w.heap.size w wr) ∧ b0 ≤ wr.heap.size) (fun _ kv _ => 100 - (intOf kv).toNat)
  case atStart => exact ⟨0, 1, rfl, Lib.hid rfl, by omega, by omega, hO, K2, hz2'⟩
  case round =>
    clear hO K2 hz2'
    obtain ⟨k, kk, rfl, HKK, hk1, hk2, HO, HK, hbz⟩ := hrel
    by_cases hlt : kk ≤ (n - 1) / 2
    · have hAr := hA.below HK.out
      have hltI : (kk : Int) ≤ ((n : Int) - 1) / 2 := by omega
      go_wp2_with fail
      obtain ⟨wo, hwo⟩ : ∃ wo, wo = wr := ⟨_, rfl⟩
      subst hwo
      go_loopw [7, 33] (fun sv iv wr => ∃ (i a b : Nat), i ≤ n ∧ sv = .complex .f32 a b ∧ iv = .int .i64 i ∧ Hid (cn .f32 a = rF n kk (fun i => cn .f32 (xs.getD i 0)) i) ∧ Hid (cn .f32 b = iF n kk (fun i => cn .f32 (xs.getD i 0)) i) ∧ Hid (Below wo.heap.size wo wr)) (fun _ iv _ => n - (intOf iv).toNat)
      case atStart => exact ⟨0, 0, 0, by omega, rfl, rfl, Lib.hid (show cn .f32 0 = 0 by decide +kernel), Lib.hid (show cn .f32 0 = 0 by decide +kernel), Lib.hid (Below.refl _ _)⟩
      case round =>
        obtain ⟨i, a, b, hi, rfl, rfl, HRe, HIm, HW⟩ := hrel
        by_cases hil : i < n
        · have hiI : (i : Int) < n := by omega
          obtain ⟨bb, oo, rfl, hbb, hcell⟩ := (show FRd wr A xs from hAr.below HW.out).at_ (k := i) (by omega)
          have HX := Lib.hid (X_at (xs := xs) (i := i) (by omega))
          generalize xs[i] = x at hcell HX
          have hm : i * kk ≤ 200 := by
            have : i * kk ≤ 18 * 9 := Nat.mul_le_mul (by omega) (by omega)
            omega
          obtain ⟨q1, q2, q3⟩ := ng_ok hlo hhi hm
          obtain ⟨M, hM⟩ : ∃ M : Nat, M = i * kk := ⟨_, rfl⟩
          rw [← hM] at q1 q2 q3 hm
          have hwr : wrap64 ((i : Int) * (kk : Int)) = (M : Int) := by
            have : (i : Int) * (kk : Int) = (M : Int) := by rw [hM]; push_cast; rfl
            rw [this]; unfold wrap64; omega
          have HM := Lib.hid hM
          obtain ⟨q, hq⟩ : ∃ q, q = fop .quo .f64 (floatOfInt .f64 (M : Int)) (floatOfInt .f64 (n : Int)) := ⟨_, rfl⟩
          have hng : ngT n M = Op.negFloat .f64 q := by rw [hq]; rfl
          rw [← hq] at q1
          rw [hng] at q3
          have HN := Lib.hid hng
          have PH := fun w => phasor_any (Op.negFloat .f64 q) q3 w
          clear hq hng hM q3
          have dz : ∀ v : World, v.drewN 0 = v := fun _ => rfl
          go_wp2_with fail
          refine (PH _).mono ?_
          rintro e w5 ⟨a1, b1, m5, rfl, xa1, xb1, hw5⟩
          have K5 : Hid (Below wo.heap.size wo w5) := Lib.hid (by rw [hw5]; exact below_drewN HW.out _)
          have XA1 := Lib.hid xa1
          have XB1 := Lib.hid xb1
          clear hw5 xa1 xb1 PH q1 q2 hcell
          go_wp2_with fail
          refine (scale_any a1 b1 x _).mono ?_
          rintro e w6 ⟨a2, b2, m6, rfl, xa2, xb2, hw6⟩
          have K6 : Hid (Below wo.heap.size wo w6) := Lib.hid (by rw [hw6]; exact below_drewN K5.out _)
          have XA2 := Lib.hid xa2
          have XB2 := Lib.hid xb2
          clear hw6 xa2 xb2
          go_wp2_with fail
          refine (add_any a b a2 b2 _).mono ?_
          rintro e w7 ⟨a3, b3, m7, rfl, xa3, xb3, hw7⟩
          have K7 : Hid (Below wo.heap.size wo w7) := Lib.hid (by rw [hw7]; exact below_drewN K6.out _)
          have XA3 := Lib.hid xa3
          have XB3 := Lib.hid xb3
          clear hw7 xa3 xb3
          go_wp2_with fail
          go_roundw
          case rel =>
            refine ⟨i + 1, a3, b3, by omega, rfl, by go_num, Lib.hid ?_, Lib.hid ?_, K7⟩
            · have e : rF n kk (fun i => cn .f32 (xs.getD i 0)) (i + 1) = fop .add .f32 (rF n kk (fun i => cn .f32 (xs.getD i 0)) i) (fop .mul .f32 (phV (ngT n (i * kk))).1 (cn .f32 (xs.getD i 0))) := rfl
              rw [e, XA3.out, XA2.out, XA1.out, HRe.out, HX.out, ← HM.out, HN.out]
            · have e : iF n kk (fun i => cn .f32 (xs.getD i 0)) (i + 1) = fop .add .f32 (iF n kk (fun i => cn .f32 (xs.getD i 0)) i) (fop .mul .f32 (phV (ngT n (i * kk))).2 (cn .f32 (xs.getD i 0))) := rfl
              rw [e, XB3.out, XB2.out, XB1.out, HIm.out, HX.out, ← HM.out, HN.out]
          case measure => simp [intOf]; omega
        · obtain rfl : i = n := by omega
          obtain ⟨D, na, nb⟩ := HF.out.pw kk hk1 hlt
          have fa := cn_inj HRe.out na
          have fb := cn_inj HIm.out nb
          have hpl : Hid (lnP i xs k = pwF a b) := Lib.hid (by unfold lnP; rw [← HKK.out, fa, fb])
          rw [← fa, ← fb] at D
          have hown := HO.out
          have O2 : Hid (wr.ownsRow b0 25 1 u5 k ((lnL i xs k).map fv)) := Lib.hid (own_keepP hown (Keep.of_below (S := fun _ => False) HW.out) (fun _ _ => id))
          have K2 : Hid (Below w.heap.size w wr) := Lib.hid (Below.step HK.out HW.out)
          have hz : b0 ≤ wr.heap.size := Nat.le_trans hbz HW.out.size
          have HD := Lib.hid D
          clear fa fb na nb HRe HIm D hown HO HW HK hAr hbz
          have hown := O2.out
          have hk9 : k ≤ 20 := by have := HKK.out; omega
          go_wp2_with fail
          refine (powerOf_any _ _ HD.out _).mono ?_
          rintro e w5 ⟨rfl, hw5⟩
          subst hw5
          go_wp2_with (at_builtin; refine wpList_push rfl _ _ 27 rfl b0 25 i0 (.float .f32 0) 4 Try.underlying27 hi0 hz0 hz1 hz2 rfl _ k ((lnL i xs k).map fv) rfl hown _ rfl rfl (by unfold maxLen; omega) (by omega) hz ?_)
          intro v' w' ho' hb'
          have O3 := Lib.hid ho'
          have K3 : Hid (Below w.heap.size w w') := Lib.hid (K2.out.trans ⟨hb'.os, hb'.tape, hb'.output, hb'.size, fun g hg => hb'.block g (by omega)⟩)
          have hz3 := Nat.le_trans hz hb'.size
          clear ho' hb' hown O2 K2 hz
          go_wp2_with fail
          go_roundw
          case rel => exact ⟨k + 1, kk + 1, by go_num, Lib.hid (by rw [HKK.out]), by omega, by omega, Lib.hid (by have h := O3.out; rw [lnL_succ, List.map_append, hpl.out]; exact h), K3, hz3⟩
          case measure => simp [intOf]; omega
    · have hke : k = (n - 1) / 2 := by have := HKK.out; omega
      have ho := HO.out
      rw [hke] at ho
      obtain ⟨A', c', eA⟩ := own_slice ho
      subst eA
      have hll : (lnL n xs ((n - 1) / 2)).length = (n - 1) / 2 := by simp [lnL]
      have hR : FRd wr A' (lnL n xs ((n - 1) / 2)) := Rd.of_own ho
      have AF := areFinite_any A' c' (lnL n xs ((n - 1) / 2)) wr hR (by unfold maxLen; rw [hll]; omega)
      have hfl : finL (lnL n xs ((n - 1) / 2)) = true := by
        unfold finL lnL
        rw [List.all_eq_true]
        intro x hx
        obtain ⟨l, hl', rfl⟩ := List.mem_map.1 hx
        have := List.mem_range.1 hl'
        exact HF.out.pf (l + 1) (by omega) (by omega)
      rw [hll, hfl] at AF
      have HR := Lib.hid hR
      have hgtI : ¬ (kk : Int) ≤ ((n : Int) - 1) / 2 := by omega
      clear ho hR hll hfl HO hke
      go_wp2_with fail
      refine AF.mono ?_
      rintro e w5 ⟨rfl, m5, hw5⟩
      have K5 : Hid (Below w.heap.size w w5) := Lib.hid (by rw [hw5]; exact below_drewN HK.out _)
      have R5 : Hid (FRd w5 A' (lnL n xs ((n - 1) / 2))) := Lib.hid (by rw [hw5]; exact HR.out)
      clear hw5 AF HR
      go_wp2
      go_ret2
      exact ⟨A', c', rfl, R5.out, K5.out⟩
end Go.Proofs.Ytamgekijihpgkaa

/- A drawn line is one whose powers are known. Plain. -/
namespace Go.Proofs.Ytamgekijihpgkaa
open Go.RowKit Ieee

theorem rF_congr {n l : Nat} {f g : Nat → Nat} (h : ∀ i, i < n → f i = g i) : ∀ m, m ≤ n → rF n l f m = rF n l g m ∧ iF n l f m = iF n l g m
  | 0, _ => ⟨rfl, rfl⟩
  | m + 1, hm => by
    obtain ⟨a, b⟩ := rF_congr (l := l) h m (by omega)
    have e1 : ∀ f, rF n l f (m + 1) = fop .add .f32 (rF n l f m) (fop .mul .f32 (phV (ngT n (m * l))).1 (f m)) := fun _ => rfl
    have e2 : ∀ f, iF n l f (m + 1) = fop .add .f32 (iF n l f m) (fop .mul .f32 (phV (ngT n (m * l))).2 (f m)) := fun _ => rfl
    rw [e1, e1, e2, e2, a, b, h m (by omega)]
    exact ⟨rfl, rfl⟩
theorem line_ok {a b : Nat} {seed : Int} (ha : a < 9) (hb : b < 6) (s0 : 0 ≤ seed) (s1 : seed ≤ 2147483647) {xs : List Nat} (hx : xs.map (cn .f32) = (List.range (2 * b + 9)).map (fun i => oF (q2 a) seed ((2 * b + 9 : Nat) : Int) (b + 4) i)) :
    LnF (2 * b + 9) xs ∧ lnL (2 * b + 9) xs (b + 4) = pwN a b seed := by
  have hlen : xs.length = 2 * b + 9 := by
    have := congrArg List.length hx
    simpa using this
  have hg : ∀ i, i < 2 * b + 9 → cn .f32 (xs.getD i 0) = oF (q2 a) seed ((2 * b + 9 : Nat) : Int) (b + 4) i := fun i hi => by
    have h := congrArg (fun l => l[i]?) hx
    simp only [List.getElem?_map, List.getElem?_range hi, List.getElem?_eq_getElem (show i < xs.length by omega), Option.map_some] at h
    rw [X_at (by omega)]
    exact Option.some.inj h
  have hR : ∀ l, rF (2 * b + 9) l (fun i => cn .f32 (xs.getD i 0)) (2 * b + 9) = rF (2 * b + 9) l (fun i => oF (q2 a) seed ((2 * b + 9 : Nat) : Int) (b + 4) i) (2 * b + 9) ∧ iF (2 * b + 9) l (fun i => cn .f32 (xs.getD i 0)) (2 * b + 9) = iF (2 * b + 9) l (fun i => oF (q2 a) seed ((2 * b + 9 : Nat) : Int) (b + 4) i) (2 * b + 9) := fun l => rF_congr hg _ (Nat.le_refl _)
  have hK : (2 * b + 9 - 1) / 2 = b + 4 := by omega
  refine ⟨⟨hlen, by omega, by omega, ?_, ?_, ?_⟩, ?_⟩
  · unfold finL
    rw [List.all_eq_true]
    intro x hxm
    obtain ⟨i, hi, rfl⟩ := List.getElem_of_mem hxm
    have h1 := hg i (by omega)
    rw [X_at hi] at h1
    have f := (oF_near ha rfl hb s0 s1 (show i < 2 * b + 9 by omega) (b + 4) (by omega)).1
    have f2 := fin_of f
    rw [f.cn] at f2
    rw [h1]
    exact f2
  · intro l h1 h2
    rw [hK] at h2
    rw [(hR l).1, (hR l).2]
    have F := F_near (n := 2 * b + 9) (l := l) ha rfl hb s0 s1 h1 h2
    obtain ⟨_, hc, ht⟩ := ps_one (sd seed l)
    have hA : ab (amp a (2 * b + 9) l) ≤ 19 / 2 := by
      obtain ⟨_, w0, w1⟩ := w_ok ha (k := l - 1) (by omega)
      rw [show l - 1 + 1 = l by omega] at w0 w1
      have hn : ((2 * b + 9 : Nat) : Rat) ≤ ((19 : Nat) : Rat) := Rat.natCast_le_natCast.2 (by omega)
      have hn0 : (0 : Rat) ≤ ((2 * b + 9 : Nat) : Rat) := by exact_mod_cast Nat.zero_le _
      have e19 : ((19 : Nat) : Rat) = 19 := rfl
      rw [e19] at hn
      have h2 : ab (((2 * b + 9 : Nat) : Rat) / 2) ≤ 19 / 2 := by
        generalize ((2 * b + 9 : Nat) : Rat) = q at *
        clear F hc ht hg hR hx
        apply ab_le <;> grind
      have := mul_sm (show ab (wR a l) ≤ 1 by rw [ab_of_nonneg w0]; exact w1) h2
      unfold amp
      exact Rat.le_trans this (by decide +kernel)
    have m1 := mul_sm hA hc
    have m2 := mul_sm hA ht
    have b1 := ab_of_near F.re.2
    have b2 := ab_of_near F.im.2
    have k : (19 / 2 * (1001 / 1000) + 73 / 10000 : Rat) ≤ 100 := by decide +kernel
    refine ⟨pwD_of F.re.1 F.im.1 ?_ ?_, F.re.1.num, F.im.1.num⟩
    · generalize ab (amp a (2 * b + 9) l * pC (sd seed l)) = q at *
      clear F hc ht hg hR hx hA m2 b2
      exact Rat.le_trans b1 (Rat.le_trans (by grind) k)
    · generalize ab (amp a (2 * b + 9) l * pS (sd seed l)) = q at *
      clear F hc ht hg hR hx hA m1 b1
      exact Rat.le_trans b2 (Rat.le_trans (by grind) k)
  · intro l h1 h2
    rw [hK] at h2
    rw [(hR l).1, (hR l).2]
    have P := pwW_ok (l := l - 1) ha hb s0 s1 (by omega)
    have e : pwW a b seed (l - 1) = pwF (rF (2 * b + 9) l (fun i => oF (q2 a) seed ((2 * b + 9 : Nat) : Int) (b + 4) i) (2 * b + 9)) (iF (2 * b + 9) l (fun i => oF (q2 a) seed ((2 * b + 9 : Nat) : Int) (b + 4) i) (2 * b + 9)) := by
      unfold pwW
      rw [show l - 1 + 1 = l by omega]
    rw [← e]
    exact fin_of P.fin
  · unfold lnL pwN
    apply List.map_congr_left
    intro l _
    unfold lnP pwW
    rw [(hR (l + 1)).1, (hR (l + 1)).2]
end Go.Proofs.Ytamgekijihpgkaa
