/- The logarithm, both sides' walks. -/
import Derived.Test.YtamgekijihpgkaaFin
import Derived.Test.YtamgekijihpgkaaSpan
import Derived.Test.YtamgekijihpgkaaLogP
import Derived.Test.YtamgekijihpgkaaMa
import Derived.Deep.LoopGhost
namespace Go.Proofs.Ytamgekijihpgkaa
open Go.RowKit

/-- The logarithm of a 32-bit number, narrowed. -/
def logF (X : Nat) : Nat := n32 (lnW (c64 X))
/-- What is known ahead of a round of the halving. -/
structure Hlv (x b : Nat) (j : Nat) : Prop where
  le : j ≤ 128
  inn : In .f64 (cn .f64 b) 874 (1151 - j)
  eq : halves 200 x 0 = halves (200 - j) (cn .f64 b) j
structure Dbl (y b : Nat) (i : Nat) : Prop where
  le : i ≤ 149
  inn : In .f64 (cn .f64 b) (874 + i) 1024
  eq : doubles 200 y 0 = doubles (200 - i) (cn .f64 b) i
theorem Hlv.start {x b : Nat} (hb : cn .f64 b = x) (h : In .f64 x 874 1151) : Hlv x b 0 := ⟨by omega, by rw [hb]; exact h, by rw [hb]⟩
theorem Hlv.go {x b b' j : Nat} (h : Hlv x b j) (hg : geB (cn .f64 b) k15 = true) (hb : cn .f64 b' = fop .quo .f64 (cn .f64 b) kTwo) : j < 128 ∧ Hlv x b' (j + 1) := by
  obtain ⟨h1, h2, h3⟩ := halv_step h.inn h.le hg
  exact ⟨h1, h1, by rw [hb]; exact h2, by rw [h.eq, h3, hb]⟩
theorem Hlv.stop {x b j : Nat} (h : Hlv x b j) (hg : geB (cn .f64 b) k15 = false) : halves 200 x 0 = (cn .f64 b, j) ∧ In .f64 (cn .f64 b) 874 1024 :=
  ⟨by rw [h.eq, halves_end hg], halv_stop h.inn hg⟩
theorem Dbl.start {y b : Nat} (hb : cn .f64 b = y) (h : In .f64 y 874 1024) : Dbl y b 0 := ⟨by omega, by rw [hb]; exact h, by rw [hb]⟩
theorem Dbl.go {y b b' i : Nat} (h : Dbl y b i) (hg : ltB (cn .f64 b) k075 = true) (hb : cn .f64 b' = fop .mul .f64 (cn .f64 b) kTwo) : i < 149 ∧ Dbl y b' (i + 1) := by
  obtain ⟨h1, h2, h3⟩ := doub_step h.inn h.le hg
  exact ⟨h1, h1, by rw [hb]; exact h2, by rw [h.eq, h3, hb]⟩
theorem Dbl.stop {y b i : Nat} (h : Dbl y b i) (hg : ltB (cn .f64 b) k075 = false) : doubles 200 y 0 = (cn .f64 b, i) ∧ In .f64 (cn .f64 b) 1022 1024 :=
  ⟨by rw [h.eq, doubles_end hg], doub_stop h.inn hg⟩
/-- The square of the series. -/
def lnU (z : Nat) : Nat := fop .mul .f64 (fop .quo .f64 (fop .sub .f64 z kOne) (fop .add .f64 z kOne)) (fop .quo .f64 (fop .sub .f64 z kOne) (fop .add .f64 z kOne))
theorem kI_prev {v u : Int} (h0 : -150 ≤ v) (h1 : v < 150) (h : u = v - 1) : fop .sub .f64 (kI v) (cn .f64 4607182418800017408) = kI u := by
  subst h
  exact kI_down1 h0 h1
theorem kI_succ {v u : Int} (h0 : -150 ≤ v) (h1 : v < 150) (h : u = v + 1) : fop .add .f64 (kI v) (cn .f64 4607182418800017408) = kI u := by
  subst h
  exact kI_up1 h0 h1
theorem kI_0 : cn .f64 0 = kI 0 := by decide +kernel

set_option maxHeartbeats 2000000 in
theorem naturalLog_any (x : Nat) (w : World) (hx : In .f64 (cn .f64 x) 874 1151) :
    Calls Try.prog 40 #[.float .f64 x] w fun e w' => ∃ b n, e = .returned (.float .f64 b) ∧ cn .f64 b = lnW (cn .f64 x) ∧ nfit b = true ∧ w' = w.drewN n := by
  go_enter Try.func40, Try.ntmps40
  go_wp2_with fail
  go_loopg [0, 3] 128 (fun k xv e wr => ∃ j b be m : Nat, k = 128 - j ∧ xv = .float .f64 b ∧ e = .float .f64 be ∧ wr = w.drewN m ∧ Hid (cn .f64 be = kI j) ∧ Hlv (cn .f64 x) b j)
  case atStart => exact ⟨0, x, 0, 0, rfl, rfl, rfl, rfl, Lib.hid kI_0, Hlv.start rfl hx⟩
  case round =>
    obtain ⟨j, b, be, m, rfl, rfl, rfl, rfl, HE, HV⟩ := hrel
    cases hg : geB (cn .f64 b) k15
    · obtain ⟨s1, s2⟩ := HV.stop hg
      have S1 := Lib.hid s1
      have hj := HV.le
      unfold geB k15 at hg
      clear HV s1
      go_wp2
      go_loopg [0, 3] 149 (fun k xv e wr => ∃ i b2 be m : Nat, k = 149 - i ∧ xv = .float .f64 b2 ∧ e = .float .f64 be ∧ wr = w.drewN m ∧ Hid (cn .f64 be = kI ((j : Int) - (i : Int))) ∧ Dbl (cn .f64 b) b2 i)
      case atStart => exact ⟨0, b, be, m, rfl, rfl, rfl, rfl, Lib.hid (by rw [HE.out]; simp), Dbl.start rfl s2⟩
      case round =>
        clear hg
        obtain ⟨i, b2, be2, m2, rfl, rfl, rfl, rfl, HE2, HD⟩ := hrel
        cases hg2 : ltB (cn .f64 b2) k075
        · obtain ⟨t1, t2⟩ := HD.stop hg2
          have hi := HD.le
          have hln : Hid (lnW (cn .f64 x) = lnZ (cn .f64 b2) ((j : Int) - (i : Int))) := Lib.hid (by unfold lnW; rw [S1.out]; dsimp only; rw [t1])
          have hfit := Lib.hid (lnZ_fit t2 (e := (j : Int) - (i : Int)) (by omega) (by omega))
          unfold ltB k075 at hg2
          clear HD t1 S1
          go_wp2
          go_loopg [6, 7] 13 (fun k qv kv wr => ∃ t qb kb m : Nat, k = 13 - t ∧ t ≤ 13 ∧ qv = .float .f64 qb ∧ kv = .float .f64 kb ∧ wr = w.drewN m ∧ Hid (cn .f64 kb = kI (25 - 2 * (t : Int))) ∧ Hid (cn .f64 qb = qs (lnU (cn .f64 b2)) t))
          case atStart => exact ⟨0, _, _, _, rfl, by omega, rfl, rfl, rfl, Lib.hid (by decide +kernel), Lib.hid rfl⟩
          case round =>
            clear hg2
            obtain ⟨t, qb, kb, m3, rfl, ht, rfl, rfl, rfl, HK, HQ⟩ := hrel
            by_cases hlt : t < 13
            · obtain ⟨k1, k2, _⟩ := ks_ok t hlt
              have K1 := Lib.hid k1
              have hg3 : geB (cn .f64 kb) kOne = true := by rw [HK.out]; exact k2
              unfold geB kOne at hg3
              clear k1 k2
              go_wp2
              go_roundg (13 - (t + 1))
              case measure => omega
              case rel =>
                refine ⟨t + 1, _, _, _, rfl, by omega, rfl, rfl, rfl, Lib.hid (by rw [cn_fres, HK.out]; exact K1.out), Lib.hid ?_⟩
                simp only [cn_fres, HK.out, HQ.out]
                rfl
            · obtain rfl : t = 13 := by omega
              have hg3 : geB (cn .f64 kb) kOne = false := by rw [HK.out]; exact ks_end
              unfold geB kOne at hg3
              go_wp2
              go_ret
              refine ⟨_, _, rfl, ?_, ?_, rfl⟩
              · simp only [cn_fres, HQ.out, HE2.out]
                exact hln.out.symm
              · rw [← nfit_cn]
                simp only [cn_fres, HQ.out, HE2.out]
                exact hfit.out
        · have HG := fun b' hb => HD.go (b' := b') hg2 hb
          have hi := HD.le
          unfold ltB k075 at hg2
          clear HD
          go_wp2
          obtain ⟨hlt, hd⟩ := HG (fres .mul .f64 b2 4611686018427387904 (w.drewN m2)) (by rw [cn_fres]; rfl)
          go_roundg (149 - (i + 1))
          case measure => omega
          case rel => exact ⟨i + 1, _, _, _, rfl, rfl, rfl, rfl, Lib.hid (by rw [cn_fres, HE2.out]; exact kI_prev (by omega) (by omega) (by omega)), hd⟩
    · have HG := fun b' hb => HV.go (b' := b') hg hb
      have hi := HV.le
      unfold geB k15 at hg
      clear HV
      go_wp2
      obtain ⟨hlt, hd⟩ := HG (fres .quo .f64 b 4611686018427387904 (w.drewN m)) (by rw [cn_fres]; rfl)
      go_roundg (128 - (j + 1))
      case measure => omega
      case rel => exact ⟨j + 1, _, _, _, rfl, rfl, rfl, rfl, Lib.hid (by rw [cn_fres, HE.out]; exact kI_succ (by omega) (by omega) (by omega)), hd⟩

/-- A finite number is a number. -/
theorem finB_num {x : Nat} (h : finB x = true) : ∃ s m e, Ieee.single.read x = .number s m e := by
  unfold finB at h
  cases hr : Ieee.single.read x with
  | number s m e => exact ⟨s, m, e, rfl⟩
  | nan s t =>
    have hn : isN .f32 x = true := by unfold isN; rw [show FloatKind.f32.format.read x = .nan s t from hr]; rfl
    have : fop .sub .f32 x x = qn .f32 := by unfold fop; rw [floatBits_nanL _ _ hn]
    rw [this, ford_nanL _ (isN_qn _)] at h
    cases h
  | infinity s =>
    have : fop .sub .f32 x x = qn .f32 := by
      have hb : floatBits .sub .f32 x x = none := by
        have hr' : FloatKind.f32.format.read x = .infinity s := hr
        cases s <;> simp [floatBits, Ieee.Format.sub, hr', Ieee.Datum.opposite, Ieee.Datum.sum]
      unfold fop; rw [hb]
    rw [this, ford_nanL _ (isN_qn _)] at h
    cases h
theorem key0' : fkey .f32 (cn .f32 0) = 0 := by decide +kernel
theorem wide_in {x : Nat} (hp : ford .f32 (cn .f32 x) (cn .f32 0) = some .gt) (hf : finB (cn .f32 x) = true) : In .f64 (c64 (cn .f32 x)) 874 1151 := by
  obtain ⟨n1, _, h3⟩ := ford_gt.1 hp
  rw [key0'] at h3
  unfold c64
  rw [n1]
  generalize cn .f32 x = X at *
  obtain ⟨s, m, e, hr⟩ := finB_num hf
  obtain ⟨hm, he1, he2⟩ := Go.Proofs.Ytamgekijihpgkaa.single_bounds hr
  have e4 : Ieee.single.leastPlace = -149 := by decide +kernel
  have hk : fkey .f32 X = Ieee.signed s m (e + 149).toNat := by
    show dkey Ieee.single.leastPlace (Ieee.single.read X) = _
    rw [hr, e4]
    show Ieee.signed s m (e - -149).toNat = _
    rw [show e - -149 = e + 149 by omega]
  rw [hk] at h3
  have hs : s = false ∧ m ≠ 0 := by
    cases s
    · refine ⟨rfl, fun h0 => ?_⟩
      subst h0
      simp [Ieee.signed] at h3
    · exfalso
      have h4 : Ieee.signed true m (e + 149).toNat ≤ 0 := by
        unfold Ieee.signed
        simp only [if_true]
        exact Int.neg_nonpos_of_nonneg (Int.natCast_nonneg _)
      omega
  obtain ⟨rfl, hm0⟩ := hs
  rw [if_neg (by decide), hr]
  have b64 : bias .f64 = 1023 := rfl
  refine in_write .f64 hm0 (by omega) (by rw [b64]; omega) (by rw [b64]; omega) (by rw [b64]; omega) ?_ (by omega)
  rw [b64]
  exact Nat.le_trans (Nat.le_of_lt hm) (by rw [show (16777216 : Nat) = 2 ^ 24 from rfl]; exact Nat.pow_le_pow_right (by decide) (by omega))
theorem in_gt0 {X : Nat} (h : In .f64 X 874 1151) : ford .f64 X (cn .f64 0) = some .gt := by
  have b64 : bias .f64 = 1023 := rfl
  refine ford_gt.2 ⟨h.num (by rw [b64]; omega), by decide +kernel, ?_⟩
  rw [h.key (by omega), show fkey .f64 (cn .f64 0) = 0 by decide +kernel]
  have := rval_lt (f := Ieee.double) (r := 0) (r' := X) (by have := h.1; rw [binL] at this; omega)
  omega
theorem in_ltmax {X : Nat} (h : In .f64 X 874 1151) : ford .f64 X (cn .f64 9218868437227405311) = some .lt := by
  have b64 : bias .f64 = 1023 := rfl
  refine ford_lt.2 ⟨h.num (by rw [b64]; omega), by decide +kernel, ?_⟩
  have hc : cn .f64 9218868437227405311 = 9218868437227405311 := by decide +kernel
  have hw := fkey_word .f64 false (r := 9218868437227405311) (by decide)
  rw [h.key (by omega), hc]
  rw [show FloatKind.f64.format.word false 9218868437227405311 = 9218868437227405311 from rfl] at hw
  rw [hw]
  have := rval_lt (f := Ieee.double) (r := X) (r' := 9218868437227405311) (by have := h.2; rw [binL] at this; omega)
  exact Int.ofNat_lt.2 this

set_option maxHeartbeats 1000000 in
theorem logNumber_any (x : Nat) (w : World) (hp : ford .f32 (cn .f32 x) (cn .f32 0) = some .gt) (hf : finB (cn .f32 x) = true) :
    Calls Try.prog 19 #[.float .f32 x] w (FloatR w (logF (cn .f32 x))) := by
  have hself := ford_self (k := .f32) (x := cn .f32 x) (ford_gt.1 hp).1
  have hin := wide_in hp hf
  go_enter Try.func19, Try.ntmps19
  go_wp2_with fail
  refine (isFinite_any _ _).mono ?_
  rintro e w1 ⟨rfl, n1, rfl⟩
  rw [hf]
  go_wp2_with fail
  refine (naturalLog_any _ _ (by rw [cn_wres]; exact hin)).mono ?_
  rintro e w1 ⟨b, n, rfl, hb, hfit, rfl⟩
  have hnar := fun w => run_narrow (P := Try.prog) w 35 25 b (by kernel_rfl) Try.underlying25 hfit
  have HB := Lib.hid hb
  clear hb hfit
  go_wp2
  go_ret
  exact ⟨_, _, rfl, by rw [cn_nres, HB.out, cn_wres]; rfl, rfl⟩
theorem isInf_no (x : Nat) (w : World) (h9 : ford .f64 (cn .f64 x) (cn .f64 9218868437227405311) = some .lt) : Calls Try.prog 58 #[.float .f64 x, .int .i64 1] w fun e w' => e = .returned (.bool false) ∧ w' = w := by
  go_enter Try.func58, Try.ntmps58
  go_wp2
  go_ret
  exact ⟨rfl, rfl⟩
set_option maxHeartbeats 2000000 in
theorem l01LogWide_any (x : Nat) (w : World) (hx : In .f64 (cn .f64 x) 874 1151) :
    Calls Try.prog 49 #[.float .f64 x] w fun e w' => ∃ b n, e = .returned (.float .f64 b) ∧ cn .f64 b = lnW (cn .f64 x) ∧ nfit b = true ∧ w' = w.drewN n := by
  have b64 : bias .f64 = 1023 := rfl
  have hself := ford_self (k := .f64) (x := cn .f64 x) (hx.num (by rw [b64]; omega))
  have h0 := in_gt0 hx
  have h9 := in_ltmax hx
  go_enter Try.func49, Try.ntmps49
  go_wp2_with fail
  refine (isInf_no _ _ h9).mono ?_
  rintro e w1 ⟨rfl, rfl⟩
  clear hself h0 h9 b64
  go_wp2_with fail
  go_loopg [0, 3] 128 (fun k xv e wr => ∃ j b m : Nat, k = 128 - j ∧ xv = .float .f64 b ∧ e = .int .i64 j ∧ wr = w1.drewN m ∧ Hlv (cn .f64 x) b j)
  case atStart => exact ⟨0, x, 0, rfl, rfl, rfl, rfl, Hlv.start rfl hx⟩
  case round =>
    obtain ⟨j, b, m, rfl, rfl, rfl, rfl, HV⟩ := hrel
    have hj := HV.le
    cases hg : geB (cn .f64 b) k15
    · obtain ⟨s1, s2⟩ := HV.stop hg
      have S1 := Lib.hid s1
      unfold geB k15 at hg
      clear HV s1
      go_wp2
      go_loopg [0, 3] 149 (fun k xv e wr => ∃ i b2 m : Nat, k = 149 - i ∧ xv = .float .f64 b2 ∧ e = .int .i64 ((j : Int) - (i : Int)) ∧ wr = w1.drewN m ∧ Dbl (cn .f64 b) b2 i)
      case atStart => exact ⟨0, b, m, rfl, rfl, by simp, rfl, Dbl.start rfl s2⟩
      case round =>
        clear hg
        obtain ⟨i, b2, m2, rfl, rfl, rfl, rfl, HD⟩ := hrel
        have hi := HD.le
        cases hg2 : ltB (cn .f64 b2) k075
        · obtain ⟨t1, t2⟩ := HD.stop hg2
          have hln : Hid (lnW (cn .f64 x) = lnZ (cn .f64 b2) ((j : Int) - (i : Int))) := Lib.hid (by unfold lnW; rw [S1.out]; dsimp only; rw [t1])
          have hfit := Lib.hid (lnZ_fit t2 (e := (j : Int) - (i : Int)) (by omega) (by omega))
          unfold ltB k075 at hg2
          clear HD t1 S1
          go_wp2
          go_loopg [6, 7] 13 (fun k qv kv wr => ∃ t qb m : Nat, k = 13 - t ∧ t ≤ 13 ∧ qv = .float .f64 qb ∧ kv = .int .i64 (25 - 2 * (t : Int)) ∧ wr = w1.drewN m ∧ Hid (cn .f64 qb = qs (lnU (cn .f64 b2)) t))
          case atStart => exact ⟨0, _, _, rfl, by omega, rfl, rfl, rfl, Lib.hid rfl⟩
          case round =>
            clear hg2
            obtain ⟨t, qb, m3, rfl, ht, rfl, rfl, rfl, HQ⟩ := hrel
            by_cases hlt : t < 13
            · go_wp2
              go_roundg (13 - (t + 1))
              case measure => omega
              case rel =>
                refine ⟨t + 1, _, _, rfl, by omega, rfl, by go_num, rfl, Lib.hid ?_⟩
                simp only [cn_fres, HQ.out]
                rfl
            · obtain rfl : t = 13 := by omega
              go_wp2
              go_ret
              refine ⟨_, _, rfl, ?_, ?_, rfl⟩
              · simp only [cn_fres, HQ.out]
                exact hln.out.symm
              · rw [← nfit_cn]
                simp only [cn_fres, HQ.out]
                exact hfit.out
        · have HG := fun b' hb => HD.go (b' := b') hg2 hb
          unfold ltB k075 at hg2
          clear HD
          go_wp2
          obtain ⟨hlt, hd⟩ := HG (fres .mul .f64 b2 4611686018427387904 (w1.drewN m2)) (by rw [cn_fres]; rfl)
          go_roundg (149 - (i + 1))
          case measure => omega
          case rel => exact ⟨i + 1, _, _, rfl, rfl, by go_num, rfl, hd⟩
    · have HG := fun b' hb => HV.go (b' := b') hg hb
      unfold geB k15 at hg
      clear HV
      go_wp2
      obtain ⟨hlt, hd⟩ := HG (fres .quo .f64 b 4611686018427387904 (w1.drewN m)) (by rw [cn_fres]; rfl)
      go_roundg (128 - (j + 1))
      case measure => omega
      case rel => exact ⟨j + 1, _, _, rfl, rfl, by go_num, rfl, hd⟩
set_option maxHeartbeats 1000000 in
theorem l01Log_any (x : Nat) (w : World) (hp : ford .f32 (cn .f32 x) (cn .f32 0) = some .gt) (hf : finB (cn .f32 x) = true) :
    Calls Try.prog 27 #[.float .f32 x] w (FloatR w (logF (cn .f32 x))) := by
  have hin := wide_in hp hf
  clear hp
  go_enter Try.func27, Try.ntmps27
  go_wp2_with fail
  refine (l01LogWide_any _ _ (by rw [cn_wres]; exact hin)).mono ?_
  rintro e w1 ⟨b, n, rfl, hb, hfit, rfl⟩
  have hnar := fun w => run_narrow (P := Try.prog) w 35 25 b (by kernel_rfl) Try.underlying25 hfit
  have HB := Lib.hid hb
  clear hb hfit
  go_wp2
  go_ret
  exact ⟨_, _, rfl, by rw [cn_nres, HB.out, cn_wres]; rfl, rfl⟩
end Go.Proofs.Ytamgekijihpgkaa
