/- The point of the unit circle at some turns: the reference's walk. -/
import Derived.Test.YtamgekijihpgkaaPhD
namespace Go.Proofs.Ytamgekijihpgkaa
open Go.RowKit Ieee

theorem neq_fin {x : Nat} {b : Bool} (h : finX (cn .f64 x) = b) : (ford .f64 (fop .sub .f64 (cn .f64 x) (cn .f64 x)) (cn .f64 0) != some .eq) = !b := by
  unfold finX at h
  unfold bne
  rw [h]
theorem narrow_any (x : Nat) (hf : nfit x = true) (w : World) : Calls Try.prog 47 #[.float .f64 x] w fun e w' => e = .returned (.float .f32 (nres x w)) ∧ w' = w.drewN (ndr x) := by
  have N1 := fun w => run_narrow (P := Try.prog) w 35 25 _ (by kernel_rfl) Try.underlying25 hf
  go_enter Try.func47, Try.ntmps47
  go_wp2
  go_ret
  exact ⟨rfl, rfl⟩
set_option maxRecDepth 100000 in
set_option maxHeartbeats 2000000 in
theorem l01Phasor_any (x : Nat) (h : Kd x) (w : World) : Calls Try.prog 28 #[.float .f64 x] w (CplR w (phV x)) := by
  cases hf : finX (cn .f64 x)
  · have hv := Lib.hid (h.bad hf)
    clear h
    have hne := neq_fin hf
    clear hf
    go_enter Try.func28, Try.ntmps28
    go_wp2_with fail
    refine (l01From_any _).mono ?_
    rintro e w1 ⟨rfl, rfl⟩
    go_wp2_with fail
    refine (l01From_any _).mono ?_
    rintro e w1 ⟨rfl, rfl⟩
    go_wp2
    go_ret
    exact ⟨_, _, _, rfl, by rw [hv.out]; decide +kernel, by rw [hv.out]; decide +kernel, rfl⟩
  · obtain ⟨s, r, hx, hr⟩ := h.good hf
    clear h
    rcases Nat.lt_or_ge r (1075 * 4503599627370496) with hb | hb
    · have hv := Lib.hid (phV_small hx hb)
      have hw : FrW x := by rw [hx]; exact frW hb
      have hfr := hw.fr
      obtain ⟨l1, q2, l3, q4, q5⟩ := sine_checks (s := s) hb
      rw [← hx] at q2 q4 q5
      clear l1 l3
      unfold geC at q4
      have hne := neq_fin hf
      have cx := fun w => run_whole (P := Try.prog) w 35 2 x (frI x) (by kernel_rfl) Try.underlying2 hw.int (by have := hw.lo; omega) (by have := hw.hi; omega)
      have rf := hw.res
      have df := hw.dr
      have up := hw.up
      have HF : Hid (frF x = if lt0 (frA x) then fop .add .f64 (frA x) kO else frA x) := Lib.hid rfl
      clear hf hw hb hr hx s r
      cases g0 : lt0 (frA x)
      all_goals
        have hff := HF.out
        rw [g0] at hff
        simp only [if_true, Bool.false_eq_true, if_false] at hff
        unfold lt0 at g0
      · clear up
        rw [← hff] at rf g0
        clear hff HF
        generalize frA x = fa at *
        generalize frI x = n at *
        generalize frF x = f0 at *
        go_enter Try.func28, Try.ntmps28
        go_wp2
        clear q2 q4 q5 cx rf df hne g0
        obtain ⟨w3, hw3⟩ : ∃ w3, w3 = w := ⟨_, rfl⟩
        rw [← hw3]
        have HW3 := Lib.hid hw3
        clear hw3
        go_loopg [3, 4] 4 (fun k fv qv wr => ∃ (j f : Nat), k = 4 - j ∧ fv = .float .f64 f ∧ qv = .int .i64 j ∧ wr = w3 ∧ Qv f0 f j)
        case atStart => exact ⟨0, f0, rfl, rfl, rfl, rfl, Qv.start hfr⟩
        case round =>
          obtain ⟨j, f, rfl, rfl, rfl, rfl, Q⟩ := hrel
          have hj4 := Q.le
          cases hg : geC f kQ
          · obtain ⟨e1, f1, f2, r1, d1⟩ := Q.stop hg
            obtain ⟨W1, S1⟩ := sw_of f1
            obtain ⟨W2, S2⟩ := sw_of f2
            have HE := Lib.hid e1
            have C1 := fun w => l01Sine_any f _ _ (f1.word.choose_spec.choose_spec.1) (f1.word.choose_spec.choose_spec.2) w
            have C2 := fun w => l01Sine_any (fop .sub .f64 kQ f) _ _ (f2.word.choose_spec.choose_spec.1) (f2.word.choose_spec.choose_spec.2) w
            obtain ⟨n1', r2, d2, m2⟩ := S1
            obtain ⟨n2', r3, d3, m3⟩ := S2
            have N1 := fun w => narrow_any _ n1' w
            have N2 := fun w => narrow_any _ n2' w
            have M1 := fun w => narrow_any _ m2 w
            have M2 := fun w => narrow_any _ m3 w
            have HP : Hid (ph2 f0 = ph3 j (sinF (fop .sub .f64 kQ f)) (sinF f)) := Lib.hid (by unfold ph2; rw [e1])
            unfold geC kQ at hg
            unfold kQ at r1 d1
            clear Q n1' n2' m2 m3 f1 f2 W1 W2 e1 hfr
            generalize hS : sinF f = s at *
            generalize hC : sinF (fop .sub .f64 kQ f) = c at *
            unfold kQ at C2
            generalize fop .sub .f64 4598175219545276416 f = g at *
            clear hS hC
            go_wp2_with fail
            refine (C2 _).mono ?_
            rintro e w5 ⟨rfl, rfl⟩
            go_wp2_with fail
            refine (C1 _).mono ?_
            rintro e w6 ⟨rfl, rfl⟩
            clear C1 C2
            have hjs : j = 0 ∨ j = 1 ∨ j = 2 ∨ j = 3 ∨ j = 4 := by omega
            clear hj4 r1 d1 hg
            rcases hjs with rfl | rfl | rfl | rfl | rfl
            · go_wp2_with fail
              refine (N2 _).mono ?_
              rintro e w7 ⟨rfl, rfl⟩
              go_wp2_with fail
              refine (N1 _).mono ?_
              rintro e w8 ⟨rfl, rfl⟩
              go_wp2
              go_ret
              exact ⟨_, _, _, rfl, by rw [hv.out, HP.out]; simp only [cn_nres]; rfl, by rw [hv.out, HP.out]; simp only [cn_nres]; rfl, by rw [HW3.out]⟩
            · go_wp2_with fail
              refine (M1 _).mono ?_
              rintro e w7 ⟨rfl, rfl⟩
              go_wp2_with fail
              refine (N2 _).mono ?_
              rintro e w8 ⟨rfl, rfl⟩
              go_wp2
              go_ret
              exact ⟨_, _, _, rfl, by rw [hv.out, HP.out]; simp only [cn_nres]; rfl, by rw [hv.out, HP.out]; simp only [cn_nres]; rfl, by rw [HW3.out]⟩
            · go_wp2_with fail
              refine (M2 _).mono ?_
              rintro e w7 ⟨rfl, rfl⟩
              go_wp2_with fail
              refine (M1 _).mono ?_
              rintro e w8 ⟨rfl, rfl⟩
              go_wp2
              go_ret
              exact ⟨_, _, _, rfl, by rw [hv.out, HP.out]; simp only [cn_nres]; rfl, by rw [hv.out, HP.out]; simp only [cn_nres]; rfl, by rw [HW3.out]⟩
            · go_wp2_with fail
              refine (N1 _).mono ?_
              rintro e w7 ⟨rfl, rfl⟩
              go_wp2_with fail
              refine (M2 _).mono ?_
              rintro e w8 ⟨rfl, rfl⟩
              go_wp2
              go_ret
              exact ⟨_, _, _, rfl, by rw [hv.out, HP.out]; simp only [cn_nres]; rfl, by rw [hv.out, HP.out]; simp only [cn_nres]; rfl, by rw [HW3.out]⟩
            · go_wp2_with fail
              refine (N2 _).mono ?_
              rintro e w7 ⟨rfl, rfl⟩
              go_wp2_with fail
              refine (N1 _).mono ?_
              rintro e w8 ⟨rfl, rfl⟩
              go_wp2
              go_ret
              exact ⟨_, _, _, rfl, by rw [hv.out, HP.out]; simp only [cn_nres]; rfl, by rw [hv.out, HP.out]; simp only [cn_nres]; rfl, by rw [HW3.out]⟩
          · obtain ⟨hj, r1, d1, Q'⟩ := Q.go hg
            unfold geC kQ at hg
            have HQ := Lib.hid Q'
            unfold kQ at r1 d1
            clear Q Q'
            go_wp2
            go_roundg (4 - (j + 1))
            case measure => omega
            case rel => exact ⟨j + 1, _, rfl, rfl, by go_num, rfl, HQ.out⟩
      · obtain ⟨ru0, du0⟩ := up g0
        clear up
        rw [← hff] at ru0
        clear hff HF
        generalize frF x = f0 at *
        generalize frA x = fa at *
        generalize frI x = n at *
        go_enter Try.func28, Try.ntmps28
        go_wp2
        clear q2 q4 q5 cx rf df hne g0
        obtain ⟨w3, hw3⟩ : ∃ w3, w3 = w := ⟨_, rfl⟩
        rw [← hw3]
        have HW3 := Lib.hid hw3
        clear hw3
        go_loopg [3, 4] 4 (fun k fv qv wr => ∃ (j f : Nat), k = 4 - j ∧ fv = .float .f64 f ∧ qv = .int .i64 j ∧ wr = w3 ∧ Qv f0 f j)
        case atStart => exact ⟨0, f0, rfl, rfl, rfl, rfl, Qv.start hfr⟩
        case round =>
          obtain ⟨j, f, rfl, rfl, rfl, rfl, Q⟩ := hrel
          have hj4 := Q.le
          cases hg : geC f kQ
          · obtain ⟨e1, f1, f2, r1, d1⟩ := Q.stop hg
            obtain ⟨W1, S1⟩ := sw_of f1
            obtain ⟨W2, S2⟩ := sw_of f2
            have HE := Lib.hid e1
            have C1 := fun w => l01Sine_any f _ _ (f1.word.choose_spec.choose_spec.1) (f1.word.choose_spec.choose_spec.2) w
            have C2 := fun w => l01Sine_any (fop .sub .f64 kQ f) _ _ (f2.word.choose_spec.choose_spec.1) (f2.word.choose_spec.choose_spec.2) w
            obtain ⟨n1', r2, d2, m2⟩ := S1
            obtain ⟨n2', r3, d3, m3⟩ := S2
            have N1 := fun w => narrow_any _ n1' w
            have N2 := fun w => narrow_any _ n2' w
            have M1 := fun w => narrow_any _ m2 w
            have M2 := fun w => narrow_any _ m3 w
            have HP : Hid (ph2 f0 = ph3 j (sinF (fop .sub .f64 kQ f)) (sinF f)) := Lib.hid (by unfold ph2; rw [e1])
            unfold geC kQ at hg
            unfold kQ at r1 d1
            clear Q n1' n2' m2 m3 f1 f2 W1 W2 e1 hfr
            generalize hS : sinF f = s at *
            generalize hC : sinF (fop .sub .f64 kQ f) = c at *
            unfold kQ at C2
            generalize fop .sub .f64 4598175219545276416 f = g at *
            clear hS hC
            go_wp2_with fail
            refine (C2 _).mono ?_
            rintro e w5 ⟨rfl, rfl⟩
            go_wp2_with fail
            refine (C1 _).mono ?_
            rintro e w6 ⟨rfl, rfl⟩
            clear C1 C2
            have hjs : j = 0 ∨ j = 1 ∨ j = 2 ∨ j = 3 ∨ j = 4 := by omega
            clear hj4 r1 d1 hg
            rcases hjs with rfl | rfl | rfl | rfl | rfl
            · go_wp2_with fail
              refine (N2 _).mono ?_
              rintro e w7 ⟨rfl, rfl⟩
              go_wp2_with fail
              refine (N1 _).mono ?_
              rintro e w8 ⟨rfl, rfl⟩
              go_wp2
              go_ret
              exact ⟨_, _, _, rfl, by rw [hv.out, HP.out]; simp only [cn_nres]; rfl, by rw [hv.out, HP.out]; simp only [cn_nres]; rfl, by rw [HW3.out]⟩
            · go_wp2_with fail
              refine (M1 _).mono ?_
              rintro e w7 ⟨rfl, rfl⟩
              go_wp2_with fail
              refine (N2 _).mono ?_
              rintro e w8 ⟨rfl, rfl⟩
              go_wp2
              go_ret
              exact ⟨_, _, _, rfl, by rw [hv.out, HP.out]; simp only [cn_nres]; rfl, by rw [hv.out, HP.out]; simp only [cn_nres]; rfl, by rw [HW3.out]⟩
            · go_wp2_with fail
              refine (M2 _).mono ?_
              rintro e w7 ⟨rfl, rfl⟩
              go_wp2_with fail
              refine (M1 _).mono ?_
              rintro e w8 ⟨rfl, rfl⟩
              go_wp2
              go_ret
              exact ⟨_, _, _, rfl, by rw [hv.out, HP.out]; simp only [cn_nres]; rfl, by rw [hv.out, HP.out]; simp only [cn_nres]; rfl, by rw [HW3.out]⟩
            · go_wp2_with fail
              refine (N1 _).mono ?_
              rintro e w7 ⟨rfl, rfl⟩
              go_wp2_with fail
              refine (M2 _).mono ?_
              rintro e w8 ⟨rfl, rfl⟩
              go_wp2
              go_ret
              exact ⟨_, _, _, rfl, by rw [hv.out, HP.out]; simp only [cn_nres]; rfl, by rw [hv.out, HP.out]; simp only [cn_nres]; rfl, by rw [HW3.out]⟩
            · go_wp2_with fail
              refine (N2 _).mono ?_
              rintro e w7 ⟨rfl, rfl⟩
              go_wp2_with fail
              refine (N1 _).mono ?_
              rintro e w8 ⟨rfl, rfl⟩
              go_wp2
              go_ret
              exact ⟨_, _, _, rfl, by rw [hv.out, HP.out]; simp only [cn_nres]; rfl, by rw [hv.out, HP.out]; simp only [cn_nres]; rfl, by rw [HW3.out]⟩
          · obtain ⟨hj, r1, d1, Q'⟩ := Q.go hg
            unfold geC kQ at hg
            have HQ := Lib.hid Q'
            unfold kQ at r1 d1
            clear Q Q'
            go_wp2
            go_roundg (4 - (j + 1))
            case measure => omega
            case rel => exact ⟨j + 1, _, rfl, rfl, by go_num, rfl, HQ.out⟩
    · have hv := Lib.hid (phV_big hx hr hb)
      obtain ⟨q1, q2⟩ := big_spec s hr hb
      rw [← hx] at q1 q2
      unfold geC at q1
      have hne := neq_fin hf
      clear hf hb hr hx r
      cases s
      all_goals
        go_enter Try.func28, Try.ntmps28
        go_wp2
        go_ret
        exact ⟨_, _, _, rfl, by rw [hv.out]; decide +kernel, by rw [hv.out]; decide +kernel, rfl⟩
end Go.Proofs.Ytamgekijihpgkaa
