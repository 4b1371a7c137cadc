/- The places of a contour: the reference's loops. -/
import Derived.Test.YtcdipgkdbannmaaCoast
namespace Go.Proofs.Ytcdipgkdbannmaa
open Go.RowKit

/-- The places so far: pass dn, place i. -/
def coN (l : List Nat) (W H lev : Nat) (dn i : Nat) : List (Nat × Nat) :=
  if dn = 0 then coL l W lev (visR W 1 i) [] else if dn = 1 then coL l W lev (visR W 1 (H * W)) (visC W H 1 i) else coL l W lev (visR W 1 (H * W)) (visC W H 1 (H * W))
theorem coN_next0 (l : List Nat) (W H lev : Nat) : coN l W H lev 0 (W * H) = coN l W H lev 1 0 := by
  simp [coN, visC, Nat.mul_comm]
theorem coN_next1 (l : List Nat) (W H lev : Nat) : coN l W H lev 1 (W * H) = coN l W H lev 2 0 := by
  simp [coN, Nat.mul_comm]
theorem coN_len {l : List Nat} {W H lev dn i : Nat} (hW : W ≤ 17) (hH : H ≤ 17) (hi : i ≤ W * H) : (coN l W H lev dn i).length ≤ 600 := by
  have h3 : H * W ≤ 17 * 17 := Nat.mul_le_mul hH hW
  rw [Nat.mul_comm] at hi
  have a1 := vlenR (W := W) (lag := 1) i
  have a2 := vlenR (W := W) (lag := 1) (H * W)
  have a3 := vlenC (W := W) (H := H) (lag := 1) i
  have a4 := vlenC (W := W) (H := H) (lag := 1) (H * W)
  unfold coN
  split
  · have := coL_len l W lev (visR W 1 i) []
    simp only [List.length_nil] at this
    omega
  · split
    · have := coL_len l W lev (visR W 1 (H * W)) (visC W H 1 i)
      omega
    · have := coL_len l W lev (visR W 1 (H * W)) (visC W H 1 (H * W))
      omega
set_option maxRecDepth 100000 in
set_option maxHeartbeats 4000000 in
theorem l05Contour_any (W H : Nat) (A : Option Addr) (c : Nat) (xs : List Nat) (lev p : Nat) (w : World) (hA : FRd w A xs) (hs : shB W H xs = true)
    (c0 : w.cell? ⟨p, 0, none⟩ = some (.int .i64 W)) (c1 : w.cell? ⟨p, 1, none⟩ = some (.int .i64 H)) (c2 : w.cell? ⟨p, 2, none⟩ = some (.slice A xs.length c)) :
    Calls Try.prog 43 #[.pointer (some ⟨p, 0, none⟩), .float .f32 lev] w fun e w' => ∃ A' c' P, e = .returned (.slice A' P.length c') ∧ OwnS w.heap.size w' A' (P.map cv) ∧ cp P = coL (cl xs) W (cn .f32 lev) (visR W 1 (H * W)) (visC W H 1 (H * W)) ∧ Below w.heap.size w w' := by
  obtain ⟨i0, hi0, hz0, hz1, hz2⟩ := info_parts info.c64
  obtain ⟨sw1, sw2, sh1, sh2, sl, sf⟩ := shB_all hs
  have hl : xs.length = W * H := by exact_mod_cast sl
  have hlm : W * H ≤ 17 * 17 := Nat.mul_le_mul (by omega) (by omega)
  have hm1 : 0 ≤ (W : Int) * (H : Int) := Int.mul_nonneg (by omega) (by omega)
  have hm2 : (W : Int) * (H : Int) ≤ 17 * 17 := Int.mul_le_mul (by omega) (by omega) (by omega) (by omega)
  have hm3 : ((W * H : Nat) : Int) = (W : Int) * (H : Int) := by push_cast; rfl
  clear sl
  have hp : p < w.heap.size := World.block_lt_of_cell? _ _ c0
  go_enter Try.func43, Try.ntmps43
  have hwm : IntKind.i64.wrap ((W : Int) * (H : Int)) = (W : Int) * (H : Int) := IntWalk.i64_in _ (by omega)
  go_wp2_with fail
  go_loopw [5, 6] (fun v dv wr => ∃ (dn : Int) (P : List (Nat × Nat)), (dn = 0 ∨ dn = 1 ∨ dn = 2) ∧ dv = .int .i64 dn ∧ wr.ownsRow w.heap.size 50 1 v P.length (P.map cv) ∧ Below w.heap.size w wr ∧ Hid (cp P = coN (cl xs) W H (cn .f32 lev) dn.toNat 0)) (fun _ dv _ => 2 - (intOf dv).toNat)
  case atStart => exact ⟨0, [], .inl rfl, rfl, own_made0 w w.heap.size 50 (Nat.le_refl _), below_alloc _ _, Lib.hid rfl⟩
  case round =>
    obtain ⟨dn, P, hdn, rfl, hown, hbel, HP⟩ := hrel
    obtain ⟨wo, hwo⟩ : ∃ wo, wo = wr := ⟨_, rfl⟩
    subst hwo
    rcases hdn with rfl | rfl | rfl
    · go_wp2_with fail
      go_loopw [5, 7] (fun v iv wr => ∃ (i : Nat) (P : List (Nat × Nat)), i ≤ W * H ∧ iv = .int .i64 i ∧ wr.ownsRow w.heap.size 50 1 v P.length (P.map cv) ∧ Below w.heap.size w wr ∧ Hid (cp P = coN (cl xs) W H (cn .f32 lev) 0 i)) (fun _ iv _ => W * H - (intOf iv).toNat)
      case atStart => exact ⟨0, P, Nat.zero_le _, rfl, hown, hbel, HP⟩
      case round =>
        clear HP hown hbel
        obtain ⟨i, P, hi, rfl, hown, hbel, HP⟩ := hrel
        have e0 := (hbel.cell (p := ⟨p, 0, none⟩) hp).trans c0
        have e1 := (hbel.cell (p := ⟨p, 1, none⟩) hp).trans c1
        have e2 := (hbel.cell (p := ⟨p, 2, none⟩) hp).trans c2
        have hPl : P.length ≤ 600 := by rw [← cp_len, HP.out]; exact coN_len (by omega) (by omega) hi
        by_cases hlt : i < W * H
        · have hlt' : (i : Int) < (W : Int) * (H : Int) := by omega
          have t0 : (i : Int) % (W : Int) = ((i % W : Nat) : Int) := rfl
          have t9 : (i : Int) / (W : Int) = ((i / W : Nat) : Int) := rfl
          have t1 : ((i : Int).tmod (W : Int)) = (i : Int) % (W : Int) := Int.tmod_eq_emod_of_nonneg (by omega)
          have y0 : i % W < W := Nat.mod_lt _ (by omega)
          have y5 : i / W < H := (Nat.div_lt_iff_lt_mul (by omega)).2 (by rw [Nat.mul_comm]; exact hlt)
          have y1 : 0 ≤ (i : Int) % (W : Int) := by omega
          have y2 : (i : Int) % (W : Int) < (W : Int) := by omega
          have t2 : IntKind.i64.wrap ((i : Int) % (W : Int)) = (i : Int) % (W : Int) := IntWalk.i64_in _ (by omega)
          have t3 : ((i : Int).tdiv (W : Int)) = (i : Int) / (W : Int) := Int.tdiv_eq_ediv_of_nonneg (by omega)
          have y3 : 0 ≤ (i : Int) / (W : Int) := Int.ediv_nonneg (by omega) (by omega)
          have y4 : (i : Int) / (W : Int) < (H : Int) := by omega
          have t4 : IntKind.i64.wrap ((i : Int) / (W : Int)) = (i : Int) / (W : Int) := IntWalk.i64_in _ (by omega)
          have t5 : ((W : Int) == 0) = false := by simp; omega
          by_cases hc : i % W + 1 < W
          · have hik : i + 1 < W * H := row_next hlt hc
            have hc' : ¬ (W : Int) ≤ (i : Int) % (W : Int) + 1 := by omega
            have hq : Hid (coN (cl xs) W H (cn .f32 lev) 0 (i + 1) = coN (cl xs) W H (cn .f32 lev) 0 i ++ coP (cl xs) W (cn .f32 lev) false (i, i + 1)) := Lib.hid (by show coL _ _ _ _ _ = _; rw [visR_yes (lag := 1) (n := i) hc, coL_snocR]; rfl)
            have hik2 : i + 1 < xs.length := by omega
            obtain ⟨b1, o1, ea1, hb1, hc1⟩ := hA.at_ (show i < xs.length by omega)
            obtain ⟨b2, o2, ea2, hb2, hc2⟩ := hA.at_ hik2
            rw [ea1] at ea2
            injection ea2 with ea2
            injection ea2 with ea3 ea4
            subst ea3; subst ea4
            have hd1 := (hbel.cell (p := ⟨b1, o1 + i, none⟩) hb1).trans hc1
            have hd2 := (hbel.cell (p := ⟨b1, o1 + (i + 1), none⟩) hb1).trans hc2
            have g1 : (cl xs).getD i 0 = cn .f32 xs[i] := cl_get (by omega)
            have g2 : (cl xs).getD (i + 1) 0 = cn .f32 xs[i + 1] := cl_get (by omega)
            cases hcr : ((ford .f32 (cn .f32 xs[i]) (cn .f32 lev) == some .gt) == (ford .f32 (cn .f32 xs[i + 1]) (cn .f32 lev) == some .gt))
            · have hco : Hid (coP (cl xs) W (cn .f32 lev) false (i, i + 1) = [(fop .add .f32 (cn .f32 (floatOfInt .f32 ((i % W : Nat) : Int))) (fop .quo .f32 (fop .sub .f32 (cn .f32 lev) (cn .f32 xs[i])) (fop .sub .f32 (cn .f32 (xs[i + 1]'hik2)) (cn .f32 xs[i]))), cn .f32 (floatOfInt .f32 ((i / W : Nat) : Int)))]) := Lib.hid (by unfold coP; rw [g1, g2, hcr]; rfl)
              clear hc hc1 hc2 t0 t9 y0 y5 g1 g2
              subst ea1
              go_wp2_with fail
              go_quiet (fail)
              go_wp2_with (at_builtin; refine wpList_push rfl _ _ 38 rfl w.heap.size 50 i0 (.complex .f32 0 0) 8 Try.underlying38 hi0 hz0 hz1 hz2 rfl _ P.length (P.map cv) rfl hown _ rfl rfl (by unfold maxLen; omega) (by omega) (by exact hbel.size) ?_)
              intro v' w' hown' hb'
              have hb2' := (below_drewN hbel _).trans hb'
              have hown3 := own_cv hown'
              clear hb' hown hbel hown'
              go_wp2
              go_roundw
              case rel => exact ⟨i + 1, P ++ [(_, _)], by omega, by go_num, by rw [List.length_append]; exact hown3, hb2', by rw [hq.out, cp_snoc, HP.out, hco.out]; simp only [cn_fres]; exact Lib.hid rfl⟩
              case measure => simp [intOf]; omega
            · have hco : Hid (coP (cl xs) W (cn .f32 lev) false (i, i + 1) = []) := Lib.hid (by unfold coP; rw [g1, g2, hcr]; rfl)
              clear hc hc1 hc2 t0 t9 y0 y5 g1 g2
              subst ea1
              go_wp2_with fail
              go_quiet (fail)
              go_wp2
              all_goals
                go_roundw
                case rel => exact ⟨i + 1, P, by omega, by go_num, hown, below_drewN hbel _, by rw [hq.out, hco.out, List.append_nil]; exact HP⟩
                case measure => simp [intOf]; omega
          · have hc' : (W : Int) ≤ (i : Int) % (W : Int) + 1 := by omega
            have hq : Hid (coN (cl xs) W H (cn .f32 lev) 0 (i + 1) = coN (cl xs) W H (cn .f32 lev) 0 i) := Lib.hid (by show coL _ _ _ _ _ = _; rw [visR_no (lag := 1) (n := i) hc]; rfl)
            have w1 : IntKind.i64.wrap ((i : Int) + (W : Int)) = (i : Int) + (W : Int) := IntWalk.i64_in _ (by omega)
            clear hc t0 t9 y0 y5
            go_wp2_with fail
            go_quiet (fail)
            go_wp2
            go_roundw
            case rel => exact ⟨i + 1, P, by omega, by go_num, hown, below_drewN hbel _, by rw [hq.out]; exact HP⟩
            case measure => simp [intOf]; omega
        · obtain rfl : i = W * H := by omega
          have hlt' : ¬ ((W * H : Nat) : Int) < (W : Int) * (H : Int) := by omega
          go_wp2_with fail
          go_quiet (fail)
          go_wp2
          go_roundw
          case rel => exact ⟨1, P, .inr (.inl rfl), by go_num, hown, below_drewN hbel _, by show Hid (cp P = coN (cl xs) W H (cn .f32 lev) 1 0); rw [← coN_next0]; exact HP⟩
          case measure => simp [intOf]
    · go_wp2_with fail
      go_loopw [5, 7] (fun v iv wr => ∃ (i : Nat) (P : List (Nat × Nat)), i ≤ W * H ∧ iv = .int .i64 i ∧ wr.ownsRow w.heap.size 50 1 v P.length (P.map cv) ∧ Below w.heap.size w wr ∧ Hid (cp P = coN (cl xs) W H (cn .f32 lev) 1 i)) (fun _ iv _ => W * H - (intOf iv).toNat)
      case atStart => exact ⟨0, P, Nat.zero_le _, rfl, hown, hbel, HP⟩
      case round =>
        clear HP hown hbel
        obtain ⟨i, P, hi, rfl, hown, hbel, HP⟩ := hrel
        have e0 := (hbel.cell (p := ⟨p, 0, none⟩) hp).trans c0
        have e1 := (hbel.cell (p := ⟨p, 1, none⟩) hp).trans c1
        have e2 := (hbel.cell (p := ⟨p, 2, none⟩) hp).trans c2
        have hPl : P.length ≤ 600 := by rw [← cp_len, HP.out]; exact coN_len (by omega) (by omega) hi
        by_cases hlt : i < W * H
        · have hlt' : (i : Int) < (W : Int) * (H : Int) := by omega
          have t0 : (i : Int) % (W : Int) = ((i % W : Nat) : Int) := rfl
          have t9 : (i : Int) / (W : Int) = ((i / W : Nat) : Int) := rfl
          have t1 : ((i : Int).tmod (W : Int)) = (i : Int) % (W : Int) := Int.tmod_eq_emod_of_nonneg (by omega)
          have y0 : i % W < W := Nat.mod_lt _ (by omega)
          have y5 : i / W < H := (Nat.div_lt_iff_lt_mul (by omega)).2 (by rw [Nat.mul_comm]; exact hlt)
          have y1 : 0 ≤ (i : Int) % (W : Int) := by omega
          have y2 : (i : Int) % (W : Int) < (W : Int) := by omega
          have t2 : IntKind.i64.wrap ((i : Int) % (W : Int)) = (i : Int) % (W : Int) := IntWalk.i64_in _ (by omega)
          have t3 : ((i : Int).tdiv (W : Int)) = (i : Int) / (W : Int) := Int.tdiv_eq_ediv_of_nonneg (by omega)
          have y3 : 0 ≤ (i : Int) / (W : Int) := Int.ediv_nonneg (by omega) (by omega)
          have y4 : (i : Int) / (W : Int) < (H : Int) := by omega
          have t4 : IntKind.i64.wrap ((i : Int) / (W : Int)) = (i : Int) / (W : Int) := IntWalk.i64_in _ (by omega)
          have t5 : ((W : Int) == 0) = false := by simp; omega
          by_cases hc : i / W + 1 < H
          · have hik : i + 1 * W < W * H := col_next hlt hc
            have hc' : ¬ (H : Int) ≤ (i : Int) / (W : Int) + 1 := by omega
            have hq : Hid (coN (cl xs) W H (cn .f32 lev) 1 (i + 1) = coN (cl xs) W H (cn .f32 lev) 1 i ++ coP (cl xs) W (cn .f32 lev) true (i, i + 1 * W)) := Lib.hid (by show coL _ _ _ _ _ = _; rw [visC_yes (lag := 1) (n := i) hc, coL_snocC]; rfl)
            have hik3 : i + W < W * H := by omega
            have hik2 : i + W < xs.length := by omega
            have w1 : IntKind.i64.wrap ((i : Int) + (W : Int)) = (i : Int) + (W : Int) := IntWalk.i64_in _ (by omega)
            have w2 : ((i : Int) + (W : Int)).toNat = i + W := by omega
            have w3 : (0 : Int) ≤ (i : Int) + (W : Int) := by omega
            have w4 : (i : Int) + (W : Int) < xs.length := by omega
            have w5 : IntKind.i64.wrap ((i : Int) / (W : Int) + 1) = (i : Int) / (W : Int) + 1 := IntWalk.i64_in _ (by omega)
            obtain ⟨b1, o1, ea1, hb1, hc1⟩ := hA.at_ (show i < xs.length by omega)
            obtain ⟨b2, o2, ea2, hb2, hc2⟩ := hA.at_ hik2
            rw [ea1] at ea2
            injection ea2 with ea2
            injection ea2 with ea3 ea4
            subst ea3; subst ea4
            have hd1 := (hbel.cell (p := ⟨b1, o1 + i, none⟩) hb1).trans hc1
            have hd2 := (hbel.cell (p := ⟨b1, o1 + (i + W), none⟩) hb1).trans hc2
            have g1 : (cl xs).getD i 0 = cn .f32 xs[i] := cl_get (by omega)
            have g2 : (cl xs).getD (i + W) 0 = cn .f32 xs[i + W] := cl_get (by omega)
            cases hcr : ((ford .f32 (cn .f32 xs[i]) (cn .f32 lev) == some .gt) == (ford .f32 (cn .f32 xs[i + W]) (cn .f32 lev) == some .gt))
            · have hco : Hid (coP (cl xs) W (cn .f32 lev) true (i, i + W) = [(cn .f32 (floatOfInt .f32 ((i % W : Nat) : Int)), fop .add .f32 (cn .f32 (floatOfInt .f32 ((i / W : Nat) : Int))) (fop .quo .f32 (fop .sub .f32 (cn .f32 lev) (cn .f32 xs[i])) (fop .sub .f32 (cn .f32 (xs[i + W]'hik2)) (cn .f32 xs[i]))))]) := Lib.hid (by unfold coP; rw [g1, g2, hcr]; rfl)
              clear hc hc1 hc2 t0 t9 y0 y5 g1 g2
              subst ea1
              go_wp2_with fail
              go_quiet (fail)
              go_wp2_with (at_builtin; refine wpList_push rfl _ _ 38 rfl w.heap.size 50 i0 (.complex .f32 0 0) 8 Try.underlying38 hi0 hz0 hz1 hz2 rfl _ P.length (P.map cv) rfl hown _ rfl rfl (by unfold maxLen; omega) (by omega) (by exact hbel.size) ?_)
              intro v' w' hown' hb'
              have hb2' := (below_drewN hbel _).trans hb'
              have hown3 := own_cv hown'
              clear hb' hown hbel hown'
              go_wp2
              go_roundw
              case rel => exact ⟨i + 1, P ++ [(_, _)], by omega, by go_num, by rw [List.length_append]; exact hown3, hb2', by rw [hq.out, cp_snoc, HP.out, Nat.one_mul, hco.out]; simp only [cn_fres]; exact Lib.hid rfl⟩
              case measure => simp [intOf]; omega
            · have hco : Hid (coP (cl xs) W (cn .f32 lev) true (i, i + W) = []) := Lib.hid (by unfold coP; rw [g1, g2, hcr]; rfl)
              clear hc hc1 hc2 t0 t9 y0 y5 g1 g2
              subst ea1
              go_wp2_with fail
              go_quiet (fail)
              go_wp2
              all_goals
                go_roundw
                case rel => exact ⟨i + 1, P, by omega, by go_num, hown, below_drewN hbel _, by rw [hq.out, Nat.one_mul, hco.out, List.append_nil]; exact HP⟩
                case measure => simp [intOf]; omega
          · have hc' : (H : Int) ≤ (i : Int) / (W : Int) + 1 := by omega
            have hq : Hid (coN (cl xs) W H (cn .f32 lev) 1 (i + 1) = coN (cl xs) W H (cn .f32 lev) 1 i) := Lib.hid (by show coL _ _ _ _ _ = _; rw [visC_no (lag := 1) (n := i) hc]; rfl)
            have w1 : IntKind.i64.wrap ((i : Int) + (W : Int)) = (i : Int) + (W : Int) := IntWalk.i64_in _ (by omega)
            clear hc t0 t9 y0 y5
            go_wp2_with fail
            go_quiet (fail)
            go_wp2
            go_roundw
            case rel => exact ⟨i + 1, P, by omega, by go_num, hown, below_drewN hbel _, by rw [hq.out]; exact HP⟩
            case measure => simp [intOf]; omega
        · obtain rfl : i = W * H := by omega
          have hlt' : ¬ ((W * H : Nat) : Int) < (W : Int) * (H : Int) := by omega
          go_wp2_with fail
          go_quiet (fail)
          go_wp2
          go_roundw
          case rel => exact ⟨2, P, .inr (.inr rfl), by go_num, hown, below_drewN hbel _, by show Hid (cp P = coN (cl xs) W H (cn .f32 lev) 2 0); rw [← coN_next1]; exact HP⟩
          case measure => simp [intOf]
    · have hW0 : Hid (cp P = coL (cl xs) W (cn .f32 lev) (visR W 1 (H * W)) (visC W H 1 (H * W))) := Lib.hid (by rw [HP.out]; rfl)
      obtain ⟨Av, cA, rfl⟩ := own_slice hown
      have HO := Lib.hid (OwnS.of_own hown)
      clear hown HP
      go_wp2
      go_ret
      exact ⟨_, _, P, rfl, HO.out, hW0.out, hbel⟩
end Go.Proofs.Ytcdipgkdbannmaa
