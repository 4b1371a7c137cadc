/- CantorSet, both sides. -/
import Derived.Test.YtcdademaamoboaaListR
import Derived.Test.YtcdademaamoboaaStep
import Derived.Test.YtcdademaamoboaaPush2
namespace Go.Proofs.Ytcdademaamoboaa
open Go.RowKit

def ca1 (x : Nat) : Nat := fop .quo .f32 x (cn .f32 1077936128)
def ca2 (x : Nat) : Nat := fop .add .f32 (ca1 x) (cn .f32 1059760811)
def caL : Nat → List Nat
  | 0 => [cn .f32 0]
  | k + 1 => (caL k).map ca1 ++ (caL k).map ca2
theorem caL_len (k : Nat) : (caL k).length = 2 ^ k := by
  induction k with
  | zero => rfl
  | succ k ih => simp [caL, ih, Nat.pow_succ]; omega
theorem caL_le (k : Nat) (h : k ≤ 8) : (caL k).length ≤ 256 := by
  rw [caL_len]
  exact Nat.pow_le_pow_right (n := 2) (by decide) h

theorem cl_take_succ {xs : List Nat} {j : Nat} (h : j < xs.length) : (cl xs).take (j + 1) = (cl xs).take j ++ [cn .f32 xs[j]] := by
  rw [List.take_succ_eq_append_getElem (by rw [cl_len]; exact h)]
  simp [cl]

set_option maxHeartbeats 1000000 in
theorem specCantor_yes (n : Nat) (w : World) (hn : n ≤ 8) : Calls Try.prog 21 #[.int .i64 n] w (ListR w (caL n) true) := by
  obtain ⟨i0, hi, hz0, hz1, hz2⟩ := info_parts info.f32
  have hd1 : (decide (0 ≤ (n : Int)) && decide ((n : Int) ≤ 8)) = true := by simp; omega
  have HS1 := Lib.hid hd1
  clear hd1
  go_enter Try.func21, Try.ntmps21
  go_wp2_with fail
  refine (in_any _ _ _ _).mono ?_
  rintro e w1 ⟨rfl, rfl⟩
  rw [HS1.out]
  go_wp2_with fail
  go_loopw [4, 5] (fun v i wr => ∃ (k : Nat) (A : Option Addr) (c : Nat) (xs : List Nat), k ≤ n ∧ i = .int .i64 k ∧ v = .slice A xs.length c ∧ OwnS w.heap.size wr A (xs.map fv) ∧ Below w.heap.size w wr ∧ Hid (cl xs = caL k)) (fun _ i _ => n - (intOf i).toNat)
  case atStart => exact ⟨0, _, _, [0], Nat.zero_le _, rfl, rfl, OwnS.of_own (own_made1 w w.heap.size 22 (fv 0) (Nat.le_refl _)), below_alloc _ _, Lib.hid rfl⟩
  case round =>
    obtain ⟨k, A, c, xs, hk, rfl, rfl, hO, hbel, HL⟩ := hrel
    by_cases hlt : k < n
    · have hxl : xs.length ≤ 256 := by rw [← cl_len, HL.out]; exact caL_le k (by omega)
      obtain ⟨wo, hwo⟩ : ∃ wo, wo = wr := ⟨_, rfl⟩
      subst hwo
      go_wp2_with fail
      go_loopw [6, 7] (fun v i w2 => ∃ (j : Nat) (ys : List Nat), j ≤ xs.length ∧ i = .int .i64 j ∧ w2.ownsRow wo.heap.size 22 1 v j (ys.map fv) ∧ Below wo.heap.size wo w2 ∧ Hid (cl ys = ((cl xs).take j).map ca1)) (fun _ i _ => xs.length - (intOf i).toNat)
      case atStart => exact ⟨0, [], Nat.zero_le _, rfl, own_made0 wo wo.heap.size 22 (Nat.le_refl _), below_alloc _ _, Lib.hid rfl⟩
      case round =>
        obtain ⟨j, ys, hj, rfl, hown, hbel2, HM⟩ := hrel
        by_cases hjl : j < xs.length
        · have hR : FRd wr A xs := Rd.below hO.1 hbel2
          obtain ⟨b, o, rfl, hb, hc⟩ := hR.at_ hjl
          clear hR
          go_wp2_with (at_builtin; refine wpList_push rfl _ _ 28 rfl wo.heap.size 22 i0 (.float .f32 0) 4 Try.underlying28 hi hz0 hz1 hz2 rfl _ j (ys.map fv) rfl hown _ rfl rfl (by unfold maxLen; omega) (by omega) hbel2.size ?_)
          intro v' w' hown' hb'
          have hb2 := (below_drewN hbel2 _).trans hb'
          clear hb' hown hbel2 hc
          go_wp2
          go_roundw
          case rel => exact ⟨j + 1, ys ++ [_], by omega, by go_num, by rw [List.map_append]; exact hown', hb2, Lib.hid (by rw [cl_snoc, HM.out, cl_take_succ hjl, List.map_append]; congr 2; simp only [cn_fres, ca1])⟩
          case measure => simp [intOf]; omega
        · obtain rfl : j = xs.length := by omega
          have HM := Lib.hid (show cl ys = (cl xs).map ca1 by have := HM.out; rwa [← cl_len xs, List.take_length] at this)
          go_wp2_with fail
          go_loopw [6, 8] (fun v i w2 => ∃ (j : Nat) (zs : List Nat), j ≤ xs.length ∧ i = .int .i64 j ∧ w2.ownsRow wo.heap.size 22 1 v (xs.length + j) (zs.map fv) ∧ Below wo.heap.size wo w2 ∧ Hid (cl zs = (cl xs).map ca1 ++ ((cl xs).take j).map ca2)) (fun _ i _ => xs.length - (intOf i).toNat)
          case atStart => exact ⟨0, ys, Nat.zero_le _, rfl, hown, hbel2, Lib.hid (by rw [HM.out]; simp)⟩
          case round =>
            obtain ⟨j, zs, hj, rfl, hown, hbel2, HM⟩ := hrel
            by_cases hjl : j < xs.length
            · have hR : FRd wr A xs := Rd.below hO.1 hbel2
              obtain ⟨b, o, rfl, hb, hc⟩ := hR.at_ hjl
              clear hR
              go_wp2_with (at_builtin; refine wpList_push rfl _ _ 28 rfl wo.heap.size 22 i0 (.float .f32 0) 4 Try.underlying28 hi hz0 hz1 hz2 rfl _ (xs.length + j) (zs.map fv) rfl hown _ rfl rfl (by unfold maxLen; omega) (by omega) hbel2.size ?_)
              intro v' w' hown' hb'
              have hb2 := (below_drewN hbel2 _).trans hb'
              clear hb' hown hbel2 hc
              go_wp2
              go_roundw
              case rel => exact ⟨j + 1, zs ++ [_], by omega, by go_num, by rw [List.map_append]; exact hown', hb2, Lib.hid (by rw [cl_snoc, HM.out, cl_take_succ hjl, List.map_append, ← List.append_assoc]; congr 2; simp only [cn_fres, ca1, ca2])⟩
              case measure => simp [intOf]; omega
            · obtain rfl : j = xs.length := by omega
              have HM2 : cl zs = caL (k + 1) := by
                have := HM.out
                rw [← cl_len xs, List.take_length] at this
                rw [this, HL.out]
                rfl
              have hzl : zs.length = xs.length + xs.length := by rw [← cl_len, HM2]; simp only [caL, List.length_append, List.length_map, ← HL.out, cl_len]
              obtain ⟨B, cB, rfl⟩ := own_slice hown
              have hO2 := (OwnS.of_own hown).less hbel.size
              have hb3 := Below.step hbel hbel2
              clear hown hO hbel hbel2 HM
              go_wp2
              go_roundw
              case rel => exact ⟨k + 1, B, cB, zs, by omega, by go_num, by rw [hzl], hO2, hb3, Lib.hid HM2⟩
              case measure => simp [intOf]; omega
    · obtain rfl : k = n := by omega
      go_wp2
      go_ret2
      exact ⟨A, _, xs, rfl, HL.out, hO, hbel⟩
theorem own_made_at (w : World) (base : Nat) (e : TypeId) (s : Nat) (hs : s = w.heap.size) (hb : base ≤ w.heap.size) : (w.alloc (.cells #[] e)).ownsRow base e 1 (.slice (some ⟨s, 0, none⟩) 0 0) 0 [] := by
  subst hs
  exact own_made0 w base e hb
theorem own_some {base n : Nat} {e : TypeId} {v : Value} {xs : List Value} {w : World} (h : w.ownsRow base e 1 v n xs) (hn : 0 < n) : ∃ g c, v = .slice (some ⟨g, 0, none⟩) n c := by
  rcases h.2 with ⟨_, rfl⟩ | ⟨g, cap, cur, rfl, _⟩
  · omega
  · exact ⟨_, _, rfl⟩
theorem apart_new {a b n c n' c' : Nat} (h : a ≠ b) : Apart (.slice (some ⟨b, 0, none⟩) n c) (.slice (some ⟨a, 0, none⟩) n' c') := fun k h1 h2 => by
  simp [Value.ownBlock] at h1 h2
  omega
set_option maxHeartbeats 1000000 in
theorem implCantor_yes (n : Nat) (w : World) (hn : n ≤ 8) : Calls Try.prog 22 #[.int .i64 n] w (ListR w (caL n) true) := by
  obtain ⟨i0, hi, hz0, hz1, hz2⟩ := info_parts info.f32
  have hd1 : (decide (0 ≤ (n : Int)) && decide ((n : Int) ≤ 8)) = true := by simp; omega
  have HS1 := Lib.hid hd1
  clear hd1
  go_enter Try.func22, Try.ntmps22
  go_wp2_with fail
  refine (within_any _ _ _ _).mono ?_
  rintro e w1 ⟨rfl, rfl⟩
  rw [HS1.out]
  go_wp2_with fail
  go_loopw [4, 14] (fun v i wr => ∃ (k : Nat) (A : Option Addr) (c : Nat) (xs : List Nat), k ≤ n ∧ i = .int .i64 k ∧ v = .slice A xs.length c ∧ OwnS w.heap.size wr A (xs.map fv) ∧ Below w.heap.size w wr ∧ Hid (cl xs = caL k)) (fun _ i _ => n - (intOf i).toNat)
  case atStart => exact ⟨0, _, _, [0], Nat.zero_le _, rfl, rfl, OwnS.of_own (own_made1 w w.heap.size 22 (fv 0) (Nat.le_refl _)), below_alloc _ _, Lib.hid rfl⟩
  case round =>
    obtain ⟨k, A, c, xs, hk, rfl, rfl, hO, hbel, HL⟩ := hrel
    by_cases hlt : k < n
    · have hxl : xs.length ≤ 256 := by rw [← cl_len, HL.out]; exact caL_le k (by omega)
      obtain ⟨wo, hwo⟩ : ∃ wo, wo = wr := ⟨_, rfl⟩
      subst hwo
      go_wp2_with fail
      go_loopw [5, 6, 20] (fun v u i w2 => ∃ (j : Nat) (ys zs : List Nat), j ≤ xs.length ∧ i = .int .i64 j ∧ w2.ownsRow wo.heap.size 22 1 v j (ys.map fv) ∧ w2.ownsRow wo.heap.size 22 1 u j (zs.map fv) ∧ Apart u v ∧ Below wo.heap.size wo w2 ∧ Hid (cl ys = ((cl xs).take j).map ca1) ∧ Hid (cl zs = ((cl xs).take j).map ca2)) (fun _ _ i _ => xs.length - (intOf i).toNat)
      case atStart => exact ⟨0, [], [], Nat.zero_le _, rfl, (own_made0 wo wo.heap.size 22 (Nat.le_refl _)).alloc _, own_made_at (wo.alloc _) wo.heap.size 22 _ (by simp) (below_alloc wo _).size, apart_new (by omega), (below_alloc wo _).alloc (below_alloc wo _).size _, Lib.hid rfl, Lib.hid rfl⟩
      case round =>
        obtain ⟨j, ys, zs, hj, rfl, hown, hown2, hap, hbel2, HM, HN⟩ := hrel
        by_cases hjl : j < xs.length
        · have hR : FRd wr A xs := Rd.below hO.1 hbel2
          obtain ⟨b, o, rfl, hb, hc⟩ := hR.at_ hjl
          clear hR
          go_wp2_with (at_builtin; refine wpList_push2 rfl _ _ 28 rfl wo.heap.size 22 i0 (.float .f32 0) 4 Try.underlying28 hi hz0 hz1 hz2 rfl _ j (ys.map fv) rfl hown _ rfl rfl (by unfold maxLen; omega) (by omega) hbel2.size ?_)
          intro v' w' hown' hb' hoth
          obtain ⟨hown2', hap'⟩ := hoth _ _ _ _ hown2 hap
          have hb2 := (below_drewN hbel2 _).trans hb'
          clear hb' hown hbel2 hc hown2 hap hoth
          go_wp2_with (at_builtin; refine wpList_push2 rfl _ _ 28 rfl wo.heap.size 22 i0 (.float .f32 0) 4 Try.underlying28 hi hz0 hz1 hz2 rfl _ j (zs.map fv) rfl hown2' _ rfl rfl (by unfold maxLen; omega) (by omega) hb2.size ?_)
          intro v2 w2 hown2 hb' hoth
          obtain ⟨hown, hap⟩ := hoth _ _ _ _ hown' hap'.symm
          have hb3 := (below_drewN hb2 _).trans hb'
          clear hb' hown' hown2' hap' hoth hb2
          go_wp2
          go_roundw
          case rel => exact ⟨j + 1, ys ++ [_], zs ++ [_], by omega, by go_num, by rw [List.map_append]; exact hown, by rw [List.map_append]; exact hown2, hap.symm, hb3, Lib.hid (by rw [cl_snoc, HM.out, cl_take_succ hjl, List.map_append]; congr 2; simp only [cn_fres, ca1]), Lib.hid (by rw [cl_snoc, HN.out, cl_take_succ hjl, List.map_append]; congr 2; simp only [cn_fres, ca1, ca2])⟩
          case measure => simp [intOf]; omega
        · obtain rfl : j = xs.length := by omega
          have hx1 : 0 < xs.length := by rw [← cl_len, HL.out, caL_len]; exact Nat.two_pow_pos k
          obtain ⟨g, cap, rfl⟩ := own_some hown2 hx1
          have hcells := hown2.cells (g := g) rfl
          have hyl : ys.length = xs.length := by rw [← cl_len, HM.out]; simp [cl_len]
          have hzl : zs.length = xs.length := by rw [← cl_len, HN.out]; simp [cl_len]
          have HM2 : cl (ys ++ zs) = caL (k + 1) := by
            have h1 := HM.out
            have h2 := HN.out
            rw [← cl_len xs, List.take_length] at h1 h2
            show (ys ++ zs).map (cn .f32) = _
            rw [List.map_append]
            show cl ys ++ cl zs = _
            rw [h1, h2, HL.out]
            rfl
          have HC := Lib.hid hcells
          clear hcells hown2 hap HM HN
          go_wp2_with (at_builtin; refine wpList_append_own _ rfl _ _ 28 rfl wo.heap.size 22 i0 (.float .f32 0) 1 4 Try.underlying28 hi hz0 hz1 hz2 rfl (by decide) _ xs.length (ys.map fv) rfl hown ⟨g, 0, none⟩ xs.length cap (zs.map fv) rfl (by rw [List.length_map, hzl, Nat.mul_one]) HC.out (by intro u hu; obtain ⟨b, _, rfl⟩ := List.mem_map.1 hu; rfl) (by unfold maxLen; omega) (by omega) hbel2.size ?_)
          intro v' w' hown' hg _
          have hb3 := Below.step hbel (hbel2.trans (own_below hown hg rfl hbel2.size))
          rw [← List.map_append] at hown'
          obtain ⟨B, cB, rfl⟩ := own_slice hown'
          have hO2 := (OwnS.of_own hown').less hbel.size
          clear hown hown' hg hO hbel hbel2 HC
          go_wp2
          go_roundw
          case rel => exact ⟨k + 1, B, cB, ys ++ zs, by omega, by go_num, by rw [List.length_append, hyl, hzl], hO2, hb3, Lib.hid HM2⟩
          case measure => simp [intOf]; omega
    · obtain rfl : k = n := by omega
      go_wp2
      go_ret2
      exact ⟨A, _, xs, rfl, HL.out, hO, hbel⟩

theorem specCantor_no (n : Int) (w : World) (h : (decide (0 ≤ n) && decide (n ≤ 8)) = false) : Calls Try.prog 21 #[.int .i64 n] w (ListR w [] false) := by
  go_enter Try.func21, Try.ntmps21
  go_wp2_with fail
  refine (in_any _ _ _ _).mono ?_
  rintro e w1 ⟨rfl, rfl⟩
  rw [h]
  clear h
  go_wp2
  go_ret2
  exact listR_no w 0
theorem implCantor_no (n : Int) (w : World) (h : (decide (0 ≤ n) && decide (n ≤ 8)) = false) : Calls Try.prog 22 #[.int .i64 n] w (ListR w [] false) := by
  go_enter Try.func22, Try.ntmps22
  go_wp2_with fail
  refine (within_any _ _ _ _).mono ?_
  rintro e w1 ⟨rfl, rfl⟩
  rw [h]
  clear h
  go_wp2
  go_ret2
  exact listR_no w 0
theorem cantor_both (n : Int) : ∃ l ok, l.length ≤ 1048576 ∧ ∀ w, Calls Try.prog 21 #[.int .i64 n] w (ListR w l ok) ∧ Calls Try.prog 22 #[.int .i64 n] w (ListR w l ok) := by
  cases h : (decide (0 ≤ n) && decide (n ≤ 8))
  · exact ⟨_, _, by simp, fun w => ⟨specCantor_no n w h, implCantor_no n w h⟩⟩
  · simp at h
    obtain ⟨m, rfl⟩ := Int.eq_ofNat_of_zero_le h.1
    exact ⟨_, _, Nat.le_trans (caL_le m (by omega)) (by decide), fun w => ⟨specCantor_yes m w (by omega), implCantor_yes m w (by omega)⟩⟩
end Go.Proofs.Ytcdademaamoboaa
