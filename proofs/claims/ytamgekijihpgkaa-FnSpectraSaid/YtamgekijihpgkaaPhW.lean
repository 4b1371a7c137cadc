/- The sine at some turns: both sides' walks. -/
import Derived.Test.YtamgekijihpgkaaPhB
import Derived.Deep.LoopGhost
namespace Go.Proofs.Ytamgekijihpgkaa
open Go.RowKit Ieee

theorem fraction_any (x : Nat) (h : FrW x) (w : World) : Calls Try.prog 43 #[.float .f64 x] w fun e w' => e = .returned (.float .f64 (frF x)) ∧ w' = w := by
  have cx := fun w => run_whole (P := Try.prog) w 35 2 x (frI x) (by kernel_rfl) Try.underlying2 h.int (by have := h.lo; omega) (by have := h.hi; omega)
  have r1 := h.res
  have d1 := h.dr
  have up := h.up
  cases hl : lt0 (frA x)
  · have HF : Hid (frF x = frA x) := Lib.hid (by unfold frF; rw [hl]; rfl)
    unfold lt0 at hl
    clear up h
    generalize frF x = r at *
    generalize frA x = a at *
    generalize frI x = n at *
    go_enter Try.func43, Try.ntmps43
    go_wp2
    go_ret
    exact ⟨by rw [HF.out]; rfl, rfl⟩
  · obtain ⟨r2, d2⟩ := up hl
    have HF : Hid (frF x = fop .add .f64 (frA x) kO) := Lib.hid (by unfold frF; rw [hl]; rfl)
    unfold lt0 at hl
    clear up h
    generalize frF x = r at *
    generalize fop .add .f64 (frA x) kO = b at *
    generalize frA x = a at *
    generalize frI x = n at *
    go_enter Try.func43, Try.ntmps43
    go_wp2
    go_ret
    exact ⟨by rw [HF.out]; rfl, rfl⟩
/-- Constants of the series in the program: by floats. -/
def kN (n : Nat) : Nat := floatOfInt .f64 (n : Int)
theorem ks_tab : ∀ n : Nat, n ≤ 8 → fop .mul .f64 4611686018427387904 (kN n) = kN (2 * n) ∧ floatBits .mul .f64 4611686018427387904 (kN n) = some (kN (2 * n)) ∧ floatBits .add .f64 (kN (2 * n)) 4607182418800017408 = some (kN (2 * n + 1)) ∧ floatBits .mul .f64 (kN (2 * n)) (kN (2 * n + 1)) = some (sD n) ∧ (1 ≤ n → floatBits .sub .f64 (kN n) 4607182418800017408 = some (kN (n - 1))) ∧ geC (kN n) 4607182418800017408 = decide (1 ≤ n) := by decide +kernel
theorem fb_some {op : BinOp} {k : FloatKind} {x y r : Nat} (h : floatBits op k x y = some r) : (∀ w, fres op k x y w = r) ∧ fdr op k x y = 0 := by
  refine ⟨fun w => ?_, ?_⟩
  · unfold fres; rw [h]
  · unfold fdr; rw [h]
set_option maxRecDepth 100000 in
set_option maxHeartbeats 1000000 in
theorem sine_any (x : Nat) (h : FrW x) (w : World) : Calls Try.prog 44 #[.float .f64 x] w fun e w' => e = .returned (.float .f64 (sinF x)) ∧ w' = w := by
  have FR := fun w => fraction_any x h w
  have S := sinW h.fr
  have ra1 := S.a1.res
  have da1 := S.a1.dr
  have ra2 := S.a2.res
  have da2 := S.a2.dr
  have rz := S.z.res
  have dz := S.z.dr
  have ru := S.u.res
  have du := S.u.dr
  have rv := S.v.res
  have dv := S.v.dr
  have hp := sP_up (u := sinU x) S.u.up
  have HP := Lib.hid hp
  have h1 : Hid (sin1 x = if geC (frF x) kH then fop .sub .f64 (frF x) kH else frF x) := Lib.hid rfl
  have h2 : Hid (sin2 x = if gtC (sin1 x) kQ then fop .sub .f64 kH (sin1 x) else sin1 x) := Lib.hid rfl
  have hF : Hid (sinF x = if geC (frF x) kH then Op.negFloat .f64 (sinV x) else sinV x) := Lib.hid rfl
  have hz : Hid (sinZ x = fop .mul .f64 (sin2 x) k2P) := Lib.hid rfl
  have hu : Hid (sinU x = fop .mul .f64 (sinZ x) (sinZ x)) := Lib.hid rfl
  have hv : Hid (sinV x = fop .mul .f64 (sinZ x) (sP (sinU x) 8)) := Lib.hid rfl
  clear S hp
  rw [← hz.out] at rz
  rw [← hu.out] at ru
  rw [← hv.out] at rv
  unfold k2P at rz dz
  unfold kH at ra1 da1 ra2 da2
  clear hz hu hv
  clear h
  cases g1 : geC (frF x) kH <;> cases g2 : gtC (sin1 x) kQ
  all_goals
    have h1 := h1.out
    have h2 := h2.out
    have hF := hF.out
    rw [g1] at h1 hF
    rw [g2] at h2
    simp only [if_true, Bool.false_eq_true, if_false] at h1 h2 hF
    unfold geC kH at g1
    unfold gtC kQ at g2
    rw [hF]
    clear hF
  · rw [h1] at g2 h2
    rw [h2] at rz dz
    clear ra1 da1 ra2 da2
    have G1 := Lib.hid g1
    clear h1 h2
    generalize sinV x = v at *
    generalize sinU x = u at *
    generalize sinZ x = z at *
    generalize sin2 x = s2 at *
    generalize sin1 x = s1 at *
    generalize frF x = f at *
    go_enter Try.func44, Try.ntmps44
    go_wp2_with fail
    refine (FR _).mono ?_
    rintro e w' ⟨rfl, rfl⟩
    go_wp2
    clear FR rz dz ru du g1 g2
    go_loopg [7, 8] 8 (fun k pv kv wr => ∃ j : Nat, k = 8 - j ∧ j ≤ 8 ∧ pv = .float .f64 (sP u j) ∧ kv = .float .f64 (kN (8 - j)) ∧ wr = w')
    case atStart => exact ⟨0, rfl, by omega, rfl, rfl, rfl⟩
    case round =>
      obtain ⟨j, rfl, hj, rfl, rfl, rfl⟩ := hrel
      obtain ⟨_, t1, t2, t3, t4, t5⟩ := ks_tab (8 - j) (by omega)
      by_cases hlt : j < 8
      · obtain ⟨e1, f1⟩ := fb_some t1
        obtain ⟨e2, f2⟩ := fb_some t2
        obtain ⟨e3, f3⟩ := fb_some t3
        obtain ⟨e4, f4⟩ := fb_some (t4 (by omega))
        obtain ⟨_, hd⟩ := HP.out j hj
        obtain ⟨D1, D2, D3⟩ := hd hlt
        have r1 := D1.res
        have d1 := D1.dr
        have r2 := D2.res
        have d2 := D2.dr
        have r3 := D3.res
        have d3 := D3.dr
        have hsd : sD (8 - (j : Int)) = sD ((8 - j : Nat) : Int) := by congr 1; omega
        rw [hsd] at r2 d2 r3 d3
        have hnx : Hid (sP u (j + 1) = fop .sub .f64 kO (fop .quo .f64 (fop .mul .f64 u (sP u j)) (sD ((8 - j : Nat) : Int)))) := Lib.hid (by rw [← hsd]; rfl)
        have t5 : geC (kN (8 - j)) 4607182418800017408 = true := by rw [t5]; simp; omega
        unfold geC at t5
        unfold kO at r3 d3
        clear t1 t2 t3 t4 D1 D2 D3 rv dv G1 hd HP
        go_wp2
        go_roundg (8 - (j + 1))
        case measure => omega
        case rel => exact ⟨j + 1, rfl, by omega, by rw [hnx.out]; rfl, by congr 2, rfl⟩
      · obtain rfl : j = 8 := by omega
        have t5 : geC (kN (8 - 8)) 4607182418800017408 = false := by rw [t5]; simp
        unfold geC at t5
        have g1 := G1.out
        clear t1 t2 t3 t4 HP
        go_wp2
        go_ret
        exact ⟨rfl, rfl⟩
  · rw [h1] at g2 h2 ra2 da2
    unfold kH at h2
    rw [← h2] at ra2
    clear ra1 da1
    have G1 := Lib.hid g1
    clear h1 h2
    generalize sinV x = v at *
    generalize sinU x = u at *
    generalize sinZ x = z at *
    generalize sin2 x = s2 at *
    generalize sin1 x = s1 at *
    generalize frF x = f at *
    go_enter Try.func44, Try.ntmps44
    go_wp2_with fail
    refine (FR _).mono ?_
    rintro e w' ⟨rfl, rfl⟩
    go_wp2
    clear FR rz dz ru du g1 g2
    go_loopg [7, 8] 8 (fun k pv kv wr => ∃ j : Nat, k = 8 - j ∧ j ≤ 8 ∧ pv = .float .f64 (sP u j) ∧ kv = .float .f64 (kN (8 - j)) ∧ wr = w')
    case atStart => exact ⟨0, rfl, by omega, rfl, rfl, rfl⟩
    case round =>
      obtain ⟨j, rfl, hj, rfl, rfl, rfl⟩ := hrel
      obtain ⟨_, t1, t2, t3, t4, t5⟩ := ks_tab (8 - j) (by omega)
      by_cases hlt : j < 8
      · obtain ⟨e1, f1⟩ := fb_some t1
        obtain ⟨e2, f2⟩ := fb_some t2
        obtain ⟨e3, f3⟩ := fb_some t3
        obtain ⟨e4, f4⟩ := fb_some (t4 (by omega))
        obtain ⟨_, hd⟩ := HP.out j hj
        obtain ⟨D1, D2, D3⟩ := hd hlt
        have r1 := D1.res
        have d1 := D1.dr
        have r2 := D2.res
        have d2 := D2.dr
        have r3 := D3.res
        have d3 := D3.dr
        have hsd : sD (8 - (j : Int)) = sD ((8 - j : Nat) : Int) := by congr 1; omega
        rw [hsd] at r2 d2 r3 d3
        have hnx : Hid (sP u (j + 1) = fop .sub .f64 kO (fop .quo .f64 (fop .mul .f64 u (sP u j)) (sD ((8 - j : Nat) : Int)))) := Lib.hid (by rw [← hsd]; rfl)
        have t5 : geC (kN (8 - j)) 4607182418800017408 = true := by rw [t5]; simp; omega
        unfold geC at t5
        unfold kO at r3 d3
        clear t1 t2 t3 t4 D1 D2 D3 rv dv G1 hd HP
        go_wp2
        go_roundg (8 - (j + 1))
        case measure => omega
        case rel => exact ⟨j + 1, rfl, by omega, by rw [hnx.out]; rfl, by congr 2, rfl⟩
      · obtain rfl : j = 8 := by omega
        have t5 : geC (kN (8 - 8)) 4607182418800017408 = false := by rw [t5]; simp
        unfold geC at t5
        have g1 := G1.out
        clear t1 t2 t3 t4 HP
        go_wp2
        go_ret
        exact ⟨rfl, rfl⟩
  · unfold kH at h1
    rw [← h1] at ra1
    rw [h2] at rz dz
    clear ra2 da2
    have G1 := Lib.hid g1
    clear h1 h2
    generalize sinV x = v at *
    generalize sinU x = u at *
    generalize sinZ x = z at *
    generalize sin2 x = s2 at *
    generalize sin1 x = s1 at *
    generalize frF x = f at *
    go_enter Try.func44, Try.ntmps44
    go_wp2_with fail
    refine (FR _).mono ?_
    rintro e w' ⟨rfl, rfl⟩
    go_wp2
    clear FR rz dz ru du g1 g2
    go_loopg [7, 8] 8 (fun k pv kv wr => ∃ j : Nat, k = 8 - j ∧ j ≤ 8 ∧ pv = .float .f64 (sP u j) ∧ kv = .float .f64 (kN (8 - j)) ∧ wr = w')
    case atStart => exact ⟨0, rfl, by omega, rfl, rfl, rfl⟩
    case round =>
      obtain ⟨j, rfl, hj, rfl, rfl, rfl⟩ := hrel
      obtain ⟨_, t1, t2, t3, t4, t5⟩ := ks_tab (8 - j) (by omega)
      by_cases hlt : j < 8
      · obtain ⟨e1, f1⟩ := fb_some t1
        obtain ⟨e2, f2⟩ := fb_some t2
        obtain ⟨e3, f3⟩ := fb_some t3
        obtain ⟨e4, f4⟩ := fb_some (t4 (by omega))
        obtain ⟨_, hd⟩ := HP.out j hj
        obtain ⟨D1, D2, D3⟩ := hd hlt
        have r1 := D1.res
        have d1 := D1.dr
        have r2 := D2.res
        have d2 := D2.dr
        have r3 := D3.res
        have d3 := D3.dr
        have hsd : sD (8 - (j : Int)) = sD ((8 - j : Nat) : Int) := by congr 1; omega
        rw [hsd] at r2 d2 r3 d3
        have hnx : Hid (sP u (j + 1) = fop .sub .f64 kO (fop .quo .f64 (fop .mul .f64 u (sP u j)) (sD ((8 - j : Nat) : Int)))) := Lib.hid (by rw [← hsd]; rfl)
        have t5 : geC (kN (8 - j)) 4607182418800017408 = true := by rw [t5]; simp; omega
        unfold geC at t5
        unfold kO at r3 d3
        clear t1 t2 t3 t4 D1 D2 D3 rv dv G1 hd HP
        go_wp2
        go_roundg (8 - (j + 1))
        case measure => omega
        case rel => exact ⟨j + 1, rfl, by omega, by rw [hnx.out]; rfl, by congr 2, rfl⟩
      · obtain rfl : j = 8 := by omega
        have t5 : geC (kN (8 - 8)) 4607182418800017408 = false := by rw [t5]; simp
        unfold geC at t5
        have g1 := G1.out
        clear t1 t2 t3 t4 HP
        go_wp2
        go_ret
        exact ⟨rfl, rfl⟩
  · unfold kH at h1 h2
    rw [← h1] at ra1
    rw [← h2] at ra2
    have G1 := Lib.hid g1
    clear h1 h2
    generalize sinV x = v at *
    generalize sinU x = u at *
    generalize sinZ x = z at *
    generalize sin2 x = s2 at *
    generalize sin1 x = s1 at *
    generalize frF x = f at *
    go_enter Try.func44, Try.ntmps44
    go_wp2_with fail
    refine (FR _).mono ?_
    rintro e w' ⟨rfl, rfl⟩
    go_wp2
    clear FR rz dz ru du g1 g2
    go_loopg [7, 8] 8 (fun k pv kv wr => ∃ j : Nat, k = 8 - j ∧ j ≤ 8 ∧ pv = .float .f64 (sP u j) ∧ kv = .float .f64 (kN (8 - j)) ∧ wr = w')
    case atStart => exact ⟨0, rfl, by omega, rfl, rfl, rfl⟩
    case round =>
      obtain ⟨j, rfl, hj, rfl, rfl, rfl⟩ := hrel
      obtain ⟨_, t1, t2, t3, t4, t5⟩ := ks_tab (8 - j) (by omega)
      by_cases hlt : j < 8
      · obtain ⟨e1, f1⟩ := fb_some t1
        obtain ⟨e2, f2⟩ := fb_some t2
        obtain ⟨e3, f3⟩ := fb_some t3
        obtain ⟨e4, f4⟩ := fb_some (t4 (by omega))
        obtain ⟨_, hd⟩ := HP.out j hj
        obtain ⟨D1, D2, D3⟩ := hd hlt
        have r1 := D1.res
        have d1 := D1.dr
        have r2 := D2.res
        have d2 := D2.dr
        have r3 := D3.res
        have d3 := D3.dr
        have hsd : sD (8 - (j : Int)) = sD ((8 - j : Nat) : Int) := by congr 1; omega
        rw [hsd] at r2 d2 r3 d3
        have hnx : Hid (sP u (j + 1) = fop .sub .f64 kO (fop .quo .f64 (fop .mul .f64 u (sP u j)) (sD ((8 - j : Nat) : Int)))) := Lib.hid (by rw [← hsd]; rfl)
        have t5 : geC (kN (8 - j)) 4607182418800017408 = true := by rw [t5]; simp; omega
        unfold geC at t5
        unfold kO at r3 d3
        clear t1 t2 t3 t4 D1 D2 D3 rv dv G1 hd HP
        go_wp2
        go_roundg (8 - (j + 1))
        case measure => omega
        case rel => exact ⟨j + 1, rfl, by omega, by rw [hnx.out]; rfl, by congr 2, rfl⟩
      · obtain rfl : j = 8 := by omega
        have t5 : geC (kN (8 - 8)) 4607182418800017408 = false := by rw [t5]; simp
        unfold geC at t5
        have g1 := G1.out
        clear t1 t2 t3 t4 HP
        go_wp2
        go_ret
        exact ⟨rfl, rfl⟩
end Go.Proofs.Ytamgekijihpgkaa
