/- The point of the unit circle at some turns: both sides' walks. -/
import Derived.Test.YtamgekijihpgkaaPhC
import Derived.Deep.LoopGhost
import Derived.Deep.RegionWith
import Derived.BigRegion
import Derived.Laws.ComplexArith
namespace Go.Proofs.Ytamgekijihpgkaa
open Go.RowKit Ieee

/-- A complex number of two words, NaNs made one; drawing is all that is done. -/
def CplR (w : World) (p : Nat × Nat) (e : Ending) (w' : World) : Prop :=
  ∃ a b n, e = .returned (.complex .f32 a b) ∧ cn .f32 a = p.1 ∧ cn .f32 b = p.2 ∧ w' = w.drewN n
theorem isFin64_any (x : Nat) (w : World) : Calls Try.prog 41 #[.float .f64 x] w fun e w' => e = .returned (.bool (finX (cn .f64 x))) ∧ ∃ n, w' = w.drewN n := by
  go_enter Try.func41, Try.ntmps41
  go_wp2
  go_ret
  exact ⟨ret_bool rfl, _, rfl⟩
theorem nan_fit : nfit 9221120237041090561 = true := by decide +kernel
theorem nan_n32 : n32 (cn .f64 9221120237041090561) = qn .f32 := by decide +kernel
set_option maxRecDepth 100000 in
set_option maxHeartbeats 2000000 in
theorem phasor_any (x : Nat) (h : Kd x) (w : World) : Calls Try.prog 20 #[.float .f64 x] w (CplR w (phV x)) := by
  cases hf : finX (cn .f64 x)
  · have hv := Lib.hid (h.bad hf)
    have nf := fun w => run_narrow (P := Try.prog) w 35 25 9221120237041090561 (by kernel_rfl) Try.underlying25 nan_fit
    clear h
    go_enter Try.func20, Try.ntmps20
    go_wp2_with fail
    refine (isFin64_any _ _).mono ?_
    rintro e w1 ⟨rfl, n1, rfl⟩
    rw [hf]
    go_wp2_with fail
    refine (nan_any _).mono ?_
    rintro e w2 ⟨rfl, rfl⟩
    go_wp2
    go_ret
    exact ⟨_, _, _, rfl, by rw [hv.out]; simp only [cn_nres, nan_n32], by rw [hv.out]; simp only [cn_nres, nan_n32], rfl⟩
  · obtain ⟨s, r, hx, hr⟩ := h.good hf
    clear h
    rcases Nat.lt_or_ge r (1075 * 4503599627370496) with hb | hb
    · have hv := Lib.hid (phV_small hx hb)
      have hw : FrW x := by rw [hx]; exact frW hb
      have hfr := hw.fr
      have hg0 : geC (double.word false r) 4841369599423283200 = false := by rw [big_key hr]; exact decide_eq_false (by omega)
      have HA := Lib.hid (fun w => abs_any s r hr w)
      rw [← hx] at HA
      unfold geC at hg0
      generalize double.word false r = y at *
      clear hb hr hx s r
      go_enter Try.func20, Try.ntmps20
      go_wp2_with fail
      refine (isFin64_any _ _).mono ?_
      rintro e w1 ⟨rfl, n1, rfl⟩
      rw [hf]
      go_wp2_with fail
      refine (HA.out _).mono ?_
      rintro e w2 ⟨rfl, rfl⟩
      go_wp2_with fail
      refine (fraction_any x hw _).mono ?_
      rintro e w2 ⟨rfl, rfl⟩
      clear HA hg0 hw hf
      generalize frF x = f0 at *
      go_wp2
      obtain ⟨w3, hw3⟩ : ∃ w3, w3 = w.drewN n1 := ⟨_, rfl⟩
      rw [← hw3]
      have HW3 := Lib.hid hw3
      clear hw3
      go_loopg [4, 5] 4 (fun k fv qv wr => ∃ (j f : Nat), k = 4 - j ∧ fv = .float .f64 f ∧ qv = .int .i64 j ∧ wr = w3 ∧ Qv f0 f j)
      case atStart => exact ⟨0, f0, rfl, rfl, rfl, rfl, Qv.start hfr⟩
      case round =>
        obtain ⟨j, f, rfl, rfl, rfl, rfl, Q⟩ := hrel
        have hj4 := Q.le
        cases hg : geC f kQ
        · obtain ⟨e1, f1, f2, r1, d1⟩ := Q.stop hg
          obtain ⟨W1, S1⟩ := sw_of f1
          obtain ⟨W2, S2⟩ := sw_of f2
          have HE := Lib.hid e1
          have C1 := fun w => sine_any f W1 w
          have C2 := fun w => sine_any (fop .sub .f64 kQ f) W2 w
          obtain ⟨n1', r2, d2, m2⟩ := S1
          obtain ⟨n2', r3, d3, m3⟩ := S2
          have N1 := fun w => run_narrow (P := Try.prog) w 35 25 _ (by kernel_rfl) Try.underlying25 n1'
          have N2 := fun w => run_narrow (P := Try.prog) w 35 25 _ (by kernel_rfl) Try.underlying25 n2'
          have M1 := fun w => run_narrow (P := Try.prog) w 35 25 _ (by kernel_rfl) Try.underlying25 m2
          have M2 := fun w => run_narrow (P := Try.prog) w 35 25 _ (by kernel_rfl) Try.underlying25 m3
          have HP : Hid (ph2 f0 = ph3 j (sinF (fop .sub .f64 kQ f)) (sinF f)) := Lib.hid (by unfold ph2; rw [e1])
          unfold geC kQ at hg
          unfold kQ at r1 d1
          clear Q n1' n2' m2 m3 f1 f2 W1 W2 e1 hfr
          generalize hS : sinF f = s at *
          generalize hC : sinF (fop .sub .f64 kQ f) = c at *
          unfold kQ at C2
          generalize fop .sub .f64 4598175219545276416 f = g at *
          clear hS hC
          go_wp2_with fail
          refine (C2 _).mono ?_
          rintro e w5 ⟨rfl, rfl⟩
          go_wp2_with fail
          refine (C1 _).mono ?_
          rintro e w6 ⟨rfl, rfl⟩
          clear C1 C2
          have hjs : j = 0 ∨ j = 1 ∨ j = 2 ∨ j = 3 ∨ j = 4 := by omega
          clear hj4 r1 d1 hg
          rcases hjs with rfl | rfl | rfl | rfl | rfl
          all_goals
            go_wp2
            go_ret
            exact ⟨_, _, _, rfl, by rw [hv.out, HP.out]; simp only [cn_nres]; rfl, by rw [hv.out, HP.out]; simp only [cn_nres]; rfl, by rw [HW3.out]; exact World.drewN_drewN _ _ _⟩
        · obtain ⟨hj, r1, d1, Q'⟩ := Q.go hg
          unfold geC kQ at hg
          have HQ := Lib.hid Q'
          unfold kQ at r1 d1
          clear Q Q'
          go_wp2
          go_roundg (4 - (j + 1))
          case measure => omega
          case rel => exact ⟨j + 1, _, rfl, rfl, by go_num, rfl, HQ.out⟩
    · have hv := Lib.hid (phV_big hx hr hb)
      have hg0 : geC (double.word false r) 4841369599423283200 = true := by rw [big_key hr]; exact decide_eq_true hb
      have HA := Lib.hid (fun w => abs_any s r hr w)
      rw [← hx] at HA
      unfold geC at hg0
      generalize double.word false r = y at *
      clear hb hr hx s r
      go_enter Try.func20, Try.ntmps20
      go_wp2_with fail
      refine (isFin64_any _ _).mono ?_
      rintro e w1 ⟨rfl, n1, rfl⟩
      rw [hf]
      go_wp2_with fail
      refine (HA.out _).mono ?_
      rintro e w2 ⟨rfl, rfl⟩
      go_wp2
      go_ret
      exact ⟨_, _, _, rfl, by rw [hv.out]; decide +kernel, by rw [hv.out]; decide +kernel, rfl⟩
end Go.Proofs.Ytamgekijihpgkaa
