/- The sine at some turns: the reference's walk. -/
import Derived.Test.YtamgekijihpgkaaPhW
namespace Go.Proofs.Ytamgekijihpgkaa
open Go.RowKit Ieee

theorem sine_checks {s : Bool} {r : Nat} (hr : r < 1075 * 4503599627370496) : (∀ w, fres .sub .f64 (double.word s r) (double.word s r) w = fop .sub .f64 (double.word s r) (double.word s r)) ∧ fdr .sub .f64 (double.word s r) (double.word s r) = 0 ∧
    (ford .f64 (cn .f64 (fop .sub .f64 (double.word s r) (double.word s r))) (cn .f64 0) != some .eq) = false ∧ geC (double.word s r) 4841369599423283200 = false ∧ (ford .f64 (cn .f64 (double.word s r)) (cn .f64 14064741636278059008) == some .lt || ford .f64 (cn .f64 (double.word s r)) (cn .f64 14064741636278059008) == some .eq) = false := by
  have hf := fin_word s (r := r) (by omega)
  have S := sub_key 1 hf hf (by omega) (by rw [Int.sub_self]; exact Nat.zero_le _)
  have hn := num_word s (r := r) (by omega)
  have hk := key_word s (r := r) (by omega)
  have hlt : rval double r < rval double ((1074 + 1) * 4503599627370496) := rval_lt (f := double) hr
  have c1 : (4841369599423283200 : Nat) = double.word false ((1074 + 1) * 4503599627370496) := by decide +kernel
  have c2 : (14064741636278059008 : Nat) = double.word true ((1074 + 1) * 4503599627370496) := by decide +kernel
  have n1 := num_word false (r := (1074 + 1) * 4503599627370496) (by omega)
  have n2 := num_word true (r := (1074 + 1) * 4503599627370496) (by omega)
  have k1 := key_word false (r := (1074 + 1) * 4503599627370496) (by omega)
  have k2 := key_word true (r := (1074 + 1) * 4503599627370496) (by omega)
  refine ⟨S.res, S.dr, ?_, ?_, ?_⟩
  · obtain ⟨sg, r', a, b, _, _, d⟩ := S.wd
    rw [a, d (Int.sub_self _), ford_cn]
    cases sg <;> decide +kernel
  · rw [c1, geC_key hn n1, hk, k1]
    simp only [Bool.false_eq_true, if_false]
    generalize rval double r = u at *
    generalize rval double ((1074 + 1) * 4503599627370496) = v at *
    apply decide_eq_false
    cases s <;> simp <;> omega
  · rw [c2, ford_cn, ford_key hn n2, hk, k2]
    simp only [if_true]
    generalize rval double r = u at *
    generalize rval double ((1074 + 1) * 4503599627370496) = v at *
    rw [cmp_gt (by cases s <;> simp <;> omega)]
    rfl
set_option maxRecDepth 100000 in
set_option maxHeartbeats 1000000 in
theorem l01Sine_any (x : Nat) (s : Bool) (r : Nat) (hx : x = double.word s r) (hr : r < 1075 * 4503599627370496) (w : World) : Calls Try.prog 51 #[.float .f64 x] w fun e w' => e = .returned (.float .f64 (sinF x)) ∧ w' = w := by
  have h : FrW x := by rw [hx]; exact frW hr
  obtain ⟨q1, q2, q3, q4, q5⟩ := sine_checks (s := s) hr
  rw [← hx] at q1 q2 q3 q4 q5
  unfold geC at q4
  have cx := fun w => run_whole (P := Try.prog) w 35 2 x (frI x) (by kernel_rfl) Try.underlying2 h.int (by have := h.lo; omega) (by have := h.hi; omega)
  have rf := h.res
  have df := h.dr
  have up := h.up
  have S := sinW h.fr
  have ra1 := S.a1.res
  have da1 := S.a1.dr
  have ra2 := S.a2.res
  have da2 := S.a2.dr
  have rz := S.z.res
  have dz := S.z.dr
  have ru := S.u.res
  have du := S.u.dr
  have rv := S.v.res
  have dv := S.v.dr
  have hp := sP_up (u := sinU x) S.u.up
  have HP := Lib.hid hp
  have h1 : Hid (sin1 x = if geC (frF x) kH then fop .sub .f64 (frF x) kH else frF x) := Lib.hid rfl
  have h2 : Hid (sin2 x = if gtC (sin1 x) kQ then fop .sub .f64 kH (sin1 x) else sin1 x) := Lib.hid rfl
  have hF : Hid (sinF x = if geC (frF x) kH then Op.negFloat .f64 (sinV x) else sinV x) := Lib.hid rfl
  have hz : Hid (sinZ x = fop .mul .f64 (sin2 x) k2P) := Lib.hid rfl
  have hu : Hid (sinU x = fop .mul .f64 (sinZ x) (sinZ x)) := Lib.hid rfl
  have hv : Hid (sinV x = fop .mul .f64 (sinZ x) (sP (sinU x) 8)) := Lib.hid rfl
  clear S hp
  rw [← hz.out] at rz
  rw [← hu.out] at ru
  rw [← hv.out] at rv
  unfold k2P at rz dz
  unfold kH at ra1 da1 ra2 da2
  clear hz hu hv
  clear h hx hr s r
  have HF : Hid (frF x = if lt0 (frA x) then fop .add .f64 (frA x) kO else frA x) := Lib.hid rfl
  cases g0 : lt0 (frA x)
  all_goals
    have hf := HF.out
    rw [g0] at hf
    simp only [if_true, Bool.false_eq_true, if_false] at hf
    unfold lt0 at g0
  · clear up
    rw [← hf] at rf g0
    cases g1 : geC (frF x) kH <;> cases g2 : gtC (sin1 x) kQ
    all_goals
      have h1 := h1.out
      have h2 := h2.out
      have hF := hF.out
      rw [g1] at h1 hF
      rw [g2] at h2
      simp only [if_true, Bool.false_eq_true, if_false] at h1 h2 hF
      unfold geC kH at g1
      unfold gtC kQ at g2
      rw [hF]
      clear hF
    · rw [h1] at g2 h2
      rw [h2] at rz dz
      clear ra1 da1 ra2 da2
      have G1 := Lib.hid g1
      clear h1 h2
      generalize sinV x = v at *
      generalize sinU x = u at *
      generalize sinZ x = z at *
      generalize sin2 x = s2 at *
      generalize sin1 x = s1 at *
      generalize frF x = f at *
      clear hf HF
      generalize fop .sub .f64 x x = xx at *
      generalize frA x = fa at *
      generalize frI x = n at *
      go_enter Try.func51, Try.ntmps51
      go_wp2
      clear q1 q2 q3 q4 q5 cx rf df rz dz ru du g1 g2 g0
      go_loopg [7, 8] 8 (fun k pv kv wr => ∃ j : Nat, k = 8 - j ∧ j ≤ 8 ∧ pv = .float .f64 (sP u j) ∧ kv = .int .i64 (8 - (j : Int)) ∧ wr = w)
      case atStart => exact ⟨0, rfl, by omega, rfl, rfl, rfl⟩
      case round =>
        obtain ⟨j, rfl, hj, rfl, rfl, rfl⟩ := hrel
        by_cases hlt : j < 8
        · obtain ⟨_, hd⟩ := HP.out j hj
          obtain ⟨D1, D2, D3⟩ := hd hlt
          have r1 := D1.res
          have d1 := D1.dr
          have r2 := D2.res
          have d2 := D2.dr
          have r3 := D3.res
          have d3 := D3.dr
          have hnx : Hid (sP u (j + 1) = fop .sub .f64 kO (fop .quo .f64 (fop .mul .f64 u (sP u j)) (sD (8 - (j : Int))))) := Lib.hid rfl
          unfold sD at r2 d2 r3 d3
          unfold kO at r3 d3
          clear D1 D2 D3 rv dv G1 hd HP
          obtain ⟨k, hk⟩ : ∃ k : Int, k = 8 - (j : Int) := ⟨_, rfl⟩
          rw [← hk] at r2 d2 r3 d3 ⊢
          have k0 : 1 ≤ k := by omega
          have k9 : k ≤ 8 := by omega
          have m1 : 2 * k * (2 * k + 1) ≤ 16 * 17 := Int.mul_le_mul (by omega) (by omega) (by omega) (by omega)
          have m0 : 0 ≤ 2 * k * (2 * k + 1) := Int.mul_nonneg (by omega) (by omega)
          have hw : wrap64 (2 * k * (2 * k + 1)) = 2 * k * (2 * k + 1) := by generalize 2 * k * (2 * k + 1) = y at *; unfold wrap64; omega
          have HK := Lib.hid hk
          clear m1 m0 hk
          go_wp2
          go_roundg (8 - (j + 1))
          case measure => omega
          case rel => exact ⟨j + 1, rfl, by omega, by rw [hnx.out, ← HK.out]; rfl, by have := HK.out; go_num, rfl⟩
        · obtain rfl : j = 8 := by omega
          have g1 := G1.out
          clear HP
          go_wp2
          go_ret
          exact ⟨rfl, rfl⟩
    · rw [h1] at g2 h2 ra2 da2
      unfold kH at h2
      rw [← h2] at ra2
      clear ra1 da1
      have G1 := Lib.hid g1
      clear h1 h2
      generalize sinV x = v at *
      generalize sinU x = u at *
      generalize sinZ x = z at *
      generalize sin2 x = s2 at *
      generalize sin1 x = s1 at *
      generalize frF x = f at *
      clear hf HF
      generalize fop .sub .f64 x x = xx at *
      generalize frA x = fa at *
      generalize frI x = n at *
      go_enter Try.func51, Try.ntmps51
      go_wp2
      clear q1 q2 q3 q4 q5 cx rf df rz dz ru du g1 g2 g0
      go_loopg [7, 8] 8 (fun k pv kv wr => ∃ j : Nat, k = 8 - j ∧ j ≤ 8 ∧ pv = .float .f64 (sP u j) ∧ kv = .int .i64 (8 - (j : Int)) ∧ wr = w)
      case atStart => exact ⟨0, rfl, by omega, rfl, rfl, rfl⟩
      case round =>
        obtain ⟨j, rfl, hj, rfl, rfl, rfl⟩ := hrel
        by_cases hlt : j < 8
        · obtain ⟨_, hd⟩ := HP.out j hj
          obtain ⟨D1, D2, D3⟩ := hd hlt
          have r1 := D1.res
          have d1 := D1.dr
          have r2 := D2.res
          have d2 := D2.dr
          have r3 := D3.res
          have d3 := D3.dr
          have hnx : Hid (sP u (j + 1) = fop .sub .f64 kO (fop .quo .f64 (fop .mul .f64 u (sP u j)) (sD (8 - (j : Int))))) := Lib.hid rfl
          unfold sD at r2 d2 r3 d3
          unfold kO at r3 d3
          clear D1 D2 D3 rv dv G1 hd HP
          obtain ⟨k, hk⟩ : ∃ k : Int, k = 8 - (j : Int) := ⟨_, rfl⟩
          rw [← hk] at r2 d2 r3 d3 ⊢
          have k0 : 1 ≤ k := by omega
          have k9 : k ≤ 8 := by omega
          have m1 : 2 * k * (2 * k + 1) ≤ 16 * 17 := Int.mul_le_mul (by omega) (by omega) (by omega) (by omega)
          have m0 : 0 ≤ 2 * k * (2 * k + 1) := Int.mul_nonneg (by omega) (by omega)
          have hw : wrap64 (2 * k * (2 * k + 1)) = 2 * k * (2 * k + 1) := by generalize 2 * k * (2 * k + 1) = y at *; unfold wrap64; omega
          have HK := Lib.hid hk
          clear m1 m0 hk
          go_wp2
          go_roundg (8 - (j + 1))
          case measure => omega
          case rel => exact ⟨j + 1, rfl, by omega, by rw [hnx.out, ← HK.out]; rfl, by have := HK.out; go_num, rfl⟩
        · obtain rfl : j = 8 := by omega
          have g1 := G1.out
          clear HP
          go_wp2
          go_ret
          exact ⟨rfl, rfl⟩
    · unfold kH at h1
      rw [← h1] at ra1
      rw [h2] at rz dz
      clear ra2 da2
      have G1 := Lib.hid g1
      clear h1 h2
      generalize sinV x = v at *
      generalize sinU x = u at *
      generalize sinZ x = z at *
      generalize sin2 x = s2 at *
      generalize sin1 x = s1 at *
      generalize frF x = f at *
      clear hf HF
      generalize fop .sub .f64 x x = xx at *
      generalize frA x = fa at *
      generalize frI x = n at *
      go_enter Try.func51, Try.ntmps51
      go_wp2
      clear q1 q2 q3 q4 q5 cx rf df rz dz ru du g1 g2 g0
      go_loopg [7, 8] 8 (fun k pv kv wr => ∃ j : Nat, k = 8 - j ∧ j ≤ 8 ∧ pv = .float .f64 (sP u j) ∧ kv = .int .i64 (8 - (j : Int)) ∧ wr = w)
      case atStart => exact ⟨0, rfl, by omega, rfl, rfl, rfl⟩
      case round =>
        obtain ⟨j, rfl, hj, rfl, rfl, rfl⟩ := hrel
        by_cases hlt : j < 8
        · obtain ⟨_, hd⟩ := HP.out j hj
          obtain ⟨D1, D2, D3⟩ := hd hlt
          have r1 := D1.res
          have d1 := D1.dr
          have r2 := D2.res
          have d2 := D2.dr
          have r3 := D3.res
          have d3 := D3.dr
          have hnx : Hid (sP u (j + 1) = fop .sub .f64 kO (fop .quo .f64 (fop .mul .f64 u (sP u j)) (sD (8 - (j : Int))))) := Lib.hid rfl
          unfold sD at r2 d2 r3 d3
          unfold kO at r3 d3
          clear D1 D2 D3 rv dv G1 hd HP
          obtain ⟨k, hk⟩ : ∃ k : Int, k = 8 - (j : Int) := ⟨_, rfl⟩
          rw [← hk] at r2 d2 r3 d3 ⊢
          have k0 : 1 ≤ k := by omega
          have k9 : k ≤ 8 := by omega
          have m1 : 2 * k * (2 * k + 1) ≤ 16 * 17 := Int.mul_le_mul (by omega) (by omega) (by omega) (by omega)
          have m0 : 0 ≤ 2 * k * (2 * k + 1) := Int.mul_nonneg (by omega) (by omega)
          have hw : wrap64 (2 * k * (2 * k + 1)) = 2 * k * (2 * k + 1) := by generalize 2 * k * (2 * k + 1) = y at *; unfold wrap64; omega
          have HK := Lib.hid hk
          clear m1 m0 hk
          go_wp2
          go_roundg (8 - (j + 1))
          case measure => omega
          case rel => exact ⟨j + 1, rfl, by omega, by rw [hnx.out, ← HK.out]; rfl, by have := HK.out; go_num, rfl⟩
        · obtain rfl : j = 8 := by omega
          have g1 := G1.out
          clear HP
          go_wp2
          go_ret
          exact ⟨rfl, rfl⟩
    · unfold kH at h1 h2
      rw [← h1] at ra1
      rw [← h2] at ra2
      have G1 := Lib.hid g1
      clear h1 h2
      generalize sinV x = v at *
      generalize sinU x = u at *
      generalize sinZ x = z at *
      generalize sin2 x = s2 at *
      generalize sin1 x = s1 at *
      generalize frF x = f at *
      clear hf HF
      generalize fop .sub .f64 x x = xx at *
      generalize frA x = fa at *
      generalize frI x = n at *
      go_enter Try.func51, Try.ntmps51
      go_wp2
      clear q1 q2 q3 q4 q5 cx rf df rz dz ru du g1 g2 g0
      go_loopg [7, 8] 8 (fun k pv kv wr => ∃ j : Nat, k = 8 - j ∧ j ≤ 8 ∧ pv = .float .f64 (sP u j) ∧ kv = .int .i64 (8 - (j : Int)) ∧ wr = w)
      case atStart => exact ⟨0, rfl, by omega, rfl, rfl, rfl⟩
      case round =>
        obtain ⟨j, rfl, hj, rfl, rfl, rfl⟩ := hrel
        by_cases hlt : j < 8
        · obtain ⟨_, hd⟩ := HP.out j hj
          obtain ⟨D1, D2, D3⟩ := hd hlt
          have r1 := D1.res
          have d1 := D1.dr
          have r2 := D2.res
          have d2 := D2.dr
          have r3 := D3.res
          have d3 := D3.dr
          have hnx : Hid (sP u (j + 1) = fop .sub .f64 kO (fop .quo .f64 (fop .mul .f64 u (sP u j)) (sD (8 - (j : Int))))) := Lib.hid rfl
          unfold sD at r2 d2 r3 d3
          unfold kO at r3 d3
          clear D1 D2 D3 rv dv G1 hd HP
          obtain ⟨k, hk⟩ : ∃ k : Int, k = 8 - (j : Int) := ⟨_, rfl⟩
          rw [← hk] at r2 d2 r3 d3 ⊢
          have k0 : 1 ≤ k := by omega
          have k9 : k ≤ 8 := by omega
          have m1 : 2 * k * (2 * k + 1) ≤ 16 * 17 := Int.mul_le_mul (by omega) (by omega) (by omega) (by omega)
          have m0 : 0 ≤ 2 * k * (2 * k + 1) := Int.mul_nonneg (by omega) (by omega)
          have hw : wrap64 (2 * k * (2 * k + 1)) = 2 * k * (2 * k + 1) := by generalize 2 * k * (2 * k + 1) = y at *; unfold wrap64; omega
          have HK := Lib.hid hk
          clear m1 m0 hk
          go_wp2
          go_roundg (8 - (j + 1))
          case measure => omega
          case rel => exact ⟨j + 1, rfl, by omega, by rw [hnx.out, ← HK.out]; rfl, by have := HK.out; go_num, rfl⟩
        · obtain rfl : j = 8 := by omega
          have g1 := G1.out
          clear HP
          go_wp2
          go_ret
          exact ⟨rfl, rfl⟩
  · obtain ⟨ru0, du0⟩ := up g0
    clear up
    rw [← hf] at ru0
    cases g1 : geC (frF x) kH <;> cases g2 : gtC (sin1 x) kQ
    all_goals
      have h1 := h1.out
      have h2 := h2.out
      have hF := hF.out
      rw [g1] at h1 hF
      rw [g2] at h2
      simp only [if_true, Bool.false_eq_true, if_false] at h1 h2 hF
      unfold geC kH at g1
      unfold gtC kQ at g2
      rw [hF]
      clear hF
    · rw [h1] at g2 h2
      rw [h2] at rz dz
      clear ra1 da1 ra2 da2
      have G1 := Lib.hid g1
      clear h1 h2
      generalize sinV x = v at *
      generalize sinU x = u at *
      generalize sinZ x = z at *
      generalize sin2 x = s2 at *
      generalize sin1 x = s1 at *
      generalize frF x = f at *
      clear hf HF
      generalize fop .sub .f64 x x = xx at *
      generalize frA x = fa at *
      generalize frI x = n at *
      go_enter Try.func51, Try.ntmps51
      go_wp2
      clear q1 q2 q3 q4 q5 cx rf df rz dz ru du g1 g2 g0
      go_loopg [7, 8] 8 (fun k pv kv wr => ∃ j : Nat, k = 8 - j ∧ j ≤ 8 ∧ pv = .float .f64 (sP u j) ∧ kv = .int .i64 (8 - (j : Int)) ∧ wr = w)
      case atStart => exact ⟨0, rfl, by omega, rfl, rfl, rfl⟩
      case round =>
        obtain ⟨j, rfl, hj, rfl, rfl, rfl⟩ := hrel
        by_cases hlt : j < 8
        · obtain ⟨_, hd⟩ := HP.out j hj
          obtain ⟨D1, D2, D3⟩ := hd hlt
          have r1 := D1.res
          have d1 := D1.dr
          have r2 := D2.res
          have d2 := D2.dr
          have r3 := D3.res
          have d3 := D3.dr
          have hnx : Hid (sP u (j + 1) = fop .sub .f64 kO (fop .quo .f64 (fop .mul .f64 u (sP u j)) (sD (8 - (j : Int))))) := Lib.hid rfl
          unfold sD at r2 d2 r3 d3
          unfold kO at r3 d3
          clear D1 D2 D3 rv dv G1 hd HP
          obtain ⟨k, hk⟩ : ∃ k : Int, k = 8 - (j : Int) := ⟨_, rfl⟩
          rw [← hk] at r2 d2 r3 d3 ⊢
          have k0 : 1 ≤ k := by omega
          have k9 : k ≤ 8 := by omega
          have m1 : 2 * k * (2 * k + 1) ≤ 16 * 17 := Int.mul_le_mul (by omega) (by omega) (by omega) (by omega)
          have m0 : 0 ≤ 2 * k * (2 * k + 1) := Int.mul_nonneg (by omega) (by omega)
          have hw : wrap64 (2 * k * (2 * k + 1)) = 2 * k * (2 * k + 1) := by generalize 2 * k * (2 * k + 1) = y at *; unfold wrap64; omega
          have HK := Lib.hid hk
          clear m1 m0 hk
          go_wp2
          go_roundg (8 - (j + 1))
          case measure => omega
          case rel => exact ⟨j + 1, rfl, by omega, by rw [hnx.out, ← HK.out]; rfl, by have := HK.out; go_num, rfl⟩
        · obtain rfl : j = 8 := by omega
          have g1 := G1.out
          clear HP
          go_wp2
          go_ret
          exact ⟨rfl, rfl⟩
    · rw [h1] at g2 h2 ra2 da2
      unfold kH at h2
      rw [← h2] at ra2
      clear ra1 da1
      have G1 := Lib.hid g1
      clear h1 h2
      generalize sinV x = v at *
      generalize sinU x = u at *
      generalize sinZ x = z at *
      generalize sin2 x = s2 at *
      generalize sin1 x = s1 at *
      generalize frF x = f at *
      clear hf HF
      generalize fop .sub .f64 x x = xx at *
      generalize frA x = fa at *
      generalize frI x = n at *
      go_enter Try.func51, Try.ntmps51
      go_wp2
      clear q1 q2 q3 q4 q5 cx rf df rz dz ru du g1 g2 g0
      go_loopg [7, 8] 8 (fun k pv kv wr => ∃ j : Nat, k = 8 - j ∧ j ≤ 8 ∧ pv = .float .f64 (sP u j) ∧ kv = .int .i64 (8 - (j : Int)) ∧ wr = w)
      case atStart => exact ⟨0, rfl, by omega, rfl, rfl, rfl⟩
      case round =>
        obtain ⟨j, rfl, hj, rfl, rfl, rfl⟩ := hrel
        by_cases hlt : j < 8
        · obtain ⟨_, hd⟩ := HP.out j hj
          obtain ⟨D1, D2, D3⟩ := hd hlt
          have r1 := D1.res
          have d1 := D1.dr
          have r2 := D2.res
          have d2 := D2.dr
          have r3 := D3.res
          have d3 := D3.dr
          have hnx : Hid (sP u (j + 1) = fop .sub .f64 kO (fop .quo .f64 (fop .mul .f64 u (sP u j)) (sD (8 - (j : Int))))) := Lib.hid rfl
          unfold sD at r2 d2 r3 d3
          unfold kO at r3 d3
          clear D1 D2 D3 rv dv G1 hd HP
          obtain ⟨k, hk⟩ : ∃ k : Int, k = 8 - (j : Int) := ⟨_, rfl⟩
          rw [← hk] at r2 d2 r3 d3 ⊢
          have k0 : 1 ≤ k := by omega
          have k9 : k ≤ 8 := by omega
          have m1 : 2 * k * (2 * k + 1) ≤ 16 * 17 := Int.mul_le_mul (by omega) (by omega) (by omega) (by omega)
          have m0 : 0 ≤ 2 * k * (2 * k + 1) := Int.mul_nonneg (by omega) (by omega)
          have hw : wrap64 (2 * k * (2 * k + 1)) = 2 * k * (2 * k + 1) := by generalize 2 * k * (2 * k + 1) = y at *; unfold wrap64; omega
          have HK := Lib.hid hk
          clear m1 m0 hk
          go_wp2
          go_roundg (8 - (j + 1))
          case measure => omega
          case rel => exact ⟨j + 1, rfl, by omega, by rw [hnx.out, ← HK.out]; rfl, by have := HK.out; go_num, rfl⟩
        · obtain rfl : j = 8 := by omega
          have g1 := G1.out
          clear HP
          go_wp2
          go_ret
          exact ⟨rfl, rfl⟩
    · unfold kH at h1
      rw [← h1] at ra1
      rw [h2] at rz dz
      clear ra2 da2
      have G1 := Lib.hid g1
      clear h1 h2
      generalize sinV x = v at *
      generalize sinU x = u at *
      generalize sinZ x = z at *
      generalize sin2 x = s2 at *
      generalize sin1 x = s1 at *
      generalize frF x = f at *
      clear hf HF
      generalize fop .sub .f64 x x = xx at *
      generalize frA x = fa at *
      generalize frI x = n at *
      go_enter Try.func51, Try.ntmps51
      go_wp2
      clear q1 q2 q3 q4 q5 cx rf df rz dz ru du g1 g2 g0
      go_loopg [7, 8] 8 (fun k pv kv wr => ∃ j : Nat, k = 8 - j ∧ j ≤ 8 ∧ pv = .float .f64 (sP u j) ∧ kv = .int .i64 (8 - (j : Int)) ∧ wr = w)
      case atStart => exact ⟨0, rfl, by omega, rfl, rfl, rfl⟩
      case round =>
        obtain ⟨j, rfl, hj, rfl, rfl, rfl⟩ := hrel
        by_cases hlt : j < 8
        · obtain ⟨_, hd⟩ := HP.out j hj
          obtain ⟨D1, D2, D3⟩ := hd hlt
          have r1 := D1.res
          have d1 := D1.dr
          have r2 := D2.res
          have d2 := D2.dr
          have r3 := D3.res
          have d3 := D3.dr
          have hnx : Hid (sP u (j + 1) = fop .sub .f64 kO (fop .quo .f64 (fop .mul .f64 u (sP u j)) (sD (8 - (j : Int))))) := Lib.hid rfl
          unfold sD at r2 d2 r3 d3
          unfold kO at r3 d3
          clear D1 D2 D3 rv dv G1 hd HP
          obtain ⟨k, hk⟩ : ∃ k : Int, k = 8 - (j : Int) := ⟨_, rfl⟩
          rw [← hk] at r2 d2 r3 d3 ⊢
          have k0 : 1 ≤ k := by omega
          have k9 : k ≤ 8 := by omega
          have m1 : 2 * k * (2 * k + 1) ≤ 16 * 17 := Int.mul_le_mul (by omega) (by omega) (by omega) (by omega)
          have m0 : 0 ≤ 2 * k * (2 * k + 1) := Int.mul_nonneg (by omega) (by omega)
          have hw : wrap64 (2 * k * (2 * k + 1)) = 2 * k * (2 * k + 1) := by generalize 2 * k * (2 * k + 1) = y at *; unfold wrap64; omega
          have HK := Lib.hid hk
          clear m1 m0 hk
          go_wp2
          go_roundg (8 - (j + 1))
          case measure => omega
          case rel => exact ⟨j + 1, rfl, by omega, by rw [hnx.out, ← HK.out]; rfl, by have := HK.out; go_num, rfl⟩
        · obtain rfl : j = 8 := by omega
          have g1 := G1.out
          clear HP
          go_wp2
          go_ret
          exact ⟨rfl, rfl⟩
    · unfold kH at h1 h2
      rw [← h1] at ra1
      rw [← h2] at ra2
      have G1 := Lib.hid g1
      clear h1 h2
      generalize sinV x = v at *
      generalize sinU x = u at *
      generalize sinZ x = z at *
      generalize sin2 x = s2 at *
      generalize sin1 x = s1 at *
      generalize frF x = f at *
      clear hf HF
      generalize fop .sub .f64 x x = xx at *
      generalize frA x = fa at *
      generalize frI x = n at *
      go_enter Try.func51, Try.ntmps51
      go_wp2
      clear q1 q2 q3 q4 q5 cx rf df rz dz ru du g1 g2 g0
      go_loopg [7, 8] 8 (fun k pv kv wr => ∃ j : Nat, k = 8 - j ∧ j ≤ 8 ∧ pv = .float .f64 (sP u j) ∧ kv = .int .i64 (8 - (j : Int)) ∧ wr = w)
      case atStart => exact ⟨0, rfl, by omega, rfl, rfl, rfl⟩
      case round =>
        obtain ⟨j, rfl, hj, rfl, rfl, rfl⟩ := hrel
        by_cases hlt : j < 8
        · obtain ⟨_, hd⟩ := HP.out j hj
          obtain ⟨D1, D2, D3⟩ := hd hlt
          have r1 := D1.res
          have d1 := D1.dr
          have r2 := D2.res
          have d2 := D2.dr
          have r3 := D3.res
          have d3 := D3.dr
          have hnx : Hid (sP u (j + 1) = fop .sub .f64 kO (fop .quo .f64 (fop .mul .f64 u (sP u j)) (sD (8 - (j : Int))))) := Lib.hid rfl
          unfold sD at r2 d2 r3 d3
          unfold kO at r3 d3
          clear D1 D2 D3 rv dv G1 hd HP
          obtain ⟨k, hk⟩ : ∃ k : Int, k = 8 - (j : Int) := ⟨_, rfl⟩
          rw [← hk] at r2 d2 r3 d3 ⊢
          have k0 : 1 ≤ k := by omega
          have k9 : k ≤ 8 := by omega
          have m1 : 2 * k * (2 * k + 1) ≤ 16 * 17 := Int.mul_le_mul (by omega) (by omega) (by omega) (by omega)
          have m0 : 0 ≤ 2 * k * (2 * k + 1) := Int.mul_nonneg (by omega) (by omega)
          have hw : wrap64 (2 * k * (2 * k + 1)) = 2 * k * (2 * k + 1) := by generalize 2 * k * (2 * k + 1) = y at *; unfold wrap64; omega
          have HK := Lib.hid hk
          clear m1 m0 hk
          go_wp2
          go_roundg (8 - (j + 1))
          case measure => omega
          case rel => exact ⟨j + 1, rfl, by omega, by rw [hnx.out, ← HK.out]; rfl, by have := HK.out; go_num, rfl⟩
        · obtain rfl : j = 8 := by omega
          have g1 := G1.out
          clear HP
          go_wp2
          go_ret
          exact ⟨rfl, rfl⟩
end Go.Proofs.Ytamgekijihpgkaa
