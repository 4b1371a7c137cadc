/- FlatSheet, the reference's side. -/
import Derived.Test.YtenepnbickpcjaaFlat2
import Derived.Test.YtenepnbickpcjaaPushK
namespace Go.Proofs.Ytenepnbickpcjaa
open Go.RowKit

theorem own_keep {w w' : World} {base : Nat} {e : TypeId} {size : Nat} {v : Value} {n : Nat} {xs : List Value} {S : Nat → Prop} (h : w.ownsRow base e size v n xs) (k : Keep S w w') (hs : ∀ g, v.ownBlock = some g → ¬ S g) : w'.ownsRow base e size v n xs := by
  refine ⟨h.1, ?_⟩
  rcases h.2 with h2 | ⟨g, cap, cur, hv, hg, hh, hr⟩
  · exact .inl h2
  · refine .inr ⟨g, cap, cur, hv, hg, ?_, hr⟩
    have hlt : g < w.heap.size := by
      rcases Nat.lt_or_ge g w.heap.size with hlt | hge
      · exact hlt
      · rw [Array.getElem?_eq_none hge] at hh; cases hh
    rw [k.block g hlt (hs g (by rw [hv]; rfl))]
    exact hh
theorem l05Sides_any (sw sh : Int) (w : World) : Calls Try.prog 70 #[.int .i64 sw, .int .i64 sh] w fun e w' => e = .returned (.bool (sideB sw sh)) ∧ w = w' := by
  cases h1 : (decide (1 ≤ sw) && decide (sw ≤ 17))
  · have HS : Hid (sideB sw sh = false) := Lib.hid (by unfold sideB; rw [h1]; rfl)
    have H1 := Lib.hid h1
    clear h1
    go_enter Try.func70, Try.ntmps70
    go_wp2_with fail
    refine (in_any _ _ _ _).mono ?_
    rintro e w1 ⟨rfl, rfl⟩
    rw [H1.out]
    go_wp2
    go_ret
    exact ⟨ret_bool HS.out.symm, rfl⟩
  · have HS : Hid (sideB sw sh = (decide (1 ≤ sh) && decide (sh ≤ 17))) := Lib.hid (by unfold sideB; rw [h1]; rfl)
    have H1 := Lib.hid h1
    clear h1
    go_enter Try.func70, Try.ntmps70
    go_wp2_with fail
    refine (in_any _ _ _ _).mono ?_
    rintro e w1 ⟨rfl, rfl⟩
    rw [H1.out]
    go_wp2_with fail
    refine (in_any _ _ _ _).mono ?_
    rintro e w1 ⟨rfl, rfl⟩
    rw [← HS.out]
    go_wp2
    go_ret
    exact ⟨rfl, rfl⟩
theorem sideB_nat {W H : Nat} (hW : 1 ≤ W ∧ W ≤ 17) (hH : 1 ≤ H ∧ H ≤ 17) : sideB W H = true := by
  have e1 : (decide (1 ≤ (W : Int)) && decide ((W : Int) ≤ 17)) = true := by simp; omega
  have e2 : (decide (1 ≤ (H : Int)) && decide ((H : Int) ≤ 17)) = true := by simp; omega
  unfold sideB
  rw [e1, e2]; rfl
set_option maxRecDepth 100000 in
set_option maxHeartbeats 1000000 in
theorem specFl_yes (W H : Nat) (x : Nat) (w : World) (hW : 1 ≤ W ∧ W ≤ 17) (hH : 1 ≤ H ∧ H ≤ 17) : Calls Try.prog 33 #[.int .i64 W, .int .i64 H, .float .f32 x] w (SheetR w (flW W H x) (flH W H x) (flL W H x) (flB W H x)) := by
  have hm1 : 0 ≤ (W : Int) * (H : Int) := Int.mul_nonneg (by omega) (by omega)
  have hm2 : (W : Int) * (H : Int) ≤ 17 * 17 := Int.mul_le_mul (by omega) (by omega) (by omega) (by omega)
  have hm3 : ((W * H : Nat) : Int) = (W : Int) * (H : Int) := by push_cast; rfl
  have hwm : IntKind.i64.wrap ((W : Int) * (H : Int)) = (W : Int) * (H : Int) := IntWalk.i64_in _ (by omega)
  have hlm : W * H ≤ 17 * 17 := Nat.mul_le_mul (by omega) (by omega)
  have hs := Lib.hid (sideB_nat hW hH)
  go_enter Try.func33, Try.ntmps33
  go_wp2_with fail
  refine (l05Sides_any _ _ _).mono ?_
  rintro e w1 ⟨rfl, hw1⟩
  rw [hs.out]
  have z1 : w1.heap.size = w.heap.size + 1 := by rw [← hw1, World.size_alloc]
  go_wp2_with fail
  obtain ⟨W0, hW0⟩ : ∃ W0, W0 = w1.alloc (.cells #[.int .i64 W, .int .i64 H, .slice none 0 0] 33) := ⟨_, rfl⟩
  have K0 : Below w.heap.size w W0 := by rw [hW0, ← hw1]; exact Below.step (below_alloc _ _) (below_alloc _ _)
  have y0 : W0.heap.size = w.heap.size + 2 := by rw [hW0, World.size_alloc, z1]
  have s0 : W0.cell? ⟨w.heap.size + 1, 0, none⟩ = some (.int .i64 W) := by rw [hW0, ← z1]; simp
  have s1 : W0.cell? ⟨w.heap.size + 1, 1, none⟩ = some (.int .i64 H) := by rw [hW0, ← z1]; simp
  have s2 : W0.cell? ⟨w.heap.size + 1, 2, none⟩ = some (.slice none 0 0) := by rw [hW0, ← z1]; simp
  have g2 : W0.frozen? ⟨w.heap.size + 1, 2, none⟩ = false := by rw [hW0, ← z1]; simp
  have d0 : W0.cell? ⟨w.heap.size, 0, none⟩ = some (.int .i64 0) := by rw [hW0, ← hw1]; simp
  have d1 : W0.cell? ⟨w.heap.size, 1, none⟩ = some (.int .i64 0) := by rw [hW0, ← hw1]; simp
  have d2 : W0.cell? ⟨w.heap.size, 2, none⟩ = some (.slice none 0 0) := by rw [hW0, ← hw1]; simp
  have f0 : W0.frozen? ⟨w.heap.size, 0, none⟩ = false := by rw [hW0, ← hw1]; simp
  have f1 : W0.frozen? ⟨w.heap.size, 1, none⟩ = false := by rw [hW0, ← hw1]; simp
  have f2 : W0.frozen? ⟨w.heap.size, 2, none⟩ = false := by rw [hW0, ← hw1]; simp
  rw [← hW0]
  clear hW0 hw1 z1
  obtain ⟨i0, hi, hz0, hz1, hz2⟩ := info_parts info.f32
  go_loopw [9] (fun iv wr => ∃ (i : Nat) (v : Value), i ≤ W * H ∧ iv = .int .i64 i ∧ wr.ownsRow (w.heap.size + 2) 22 1 v i (List.replicate i (fv x)) ∧ wr.cell? ⟨w.heap.size + 1, 0, none⟩ = some (.int .i64 W) ∧ wr.cell? ⟨w.heap.size + 1, 1, none⟩ = some (.int .i64 H) ∧ wr.cell? ⟨w.heap.size + 1, 2, none⟩ = some v ∧ wr.frozen? ⟨w.heap.size + 1, 2, none⟩ = false ∧ Keep (fun k => k = w.heap.size + 1 ∨ w.heap.size + 2 ≤ k) W0 wr) (fun iv _ => W * H - (intOf iv).toNat)
  case atStart => exact ⟨0, _, Nat.zero_le _, rfl, World.ownsRow_nil _ _ _ _, s0, s1, s2, g2, Keep.refl _ _⟩
  case round =>
    clear s0 s1 s2 g2
    obtain ⟨i, v, hi2, rfl, hown, s0, s1, s2, g2, hk⟩ := hrel
    have zr := hk.size
    by_cases hlt : i < W * H
    · have hlt' : (i : Int) < (W : Int) * (H : Int) := by omega
      go_wp2_with (at_builtin; refine wpList_pushK rfl _ _ 28 rfl (w.heap.size + 2) 22 i0 (.float .f32 0) 4 Try.underlying28 hi hz0 hz1 hz2 rfl _ i _ rfl hown _ rfl rfl (by unfold maxLen; omega) (by omega) (by omega) ?_)
      intro v' w' hown' hk2 hpl
      obtain ⟨Av, cA, rfl⟩ := own_slice hown'
      have hne : ¬ (v.ownBlock = some (w.heap.size + 1)) := fun h => by have := (hown.lt _ h).1; omega
      have hlp : w.heap.size + 1 < wr.heap.size := by omega
      have s0' := (hk2.cell (p := ⟨w.heap.size + 1, 0, none⟩) hlp hne).trans s0
      have s1' := (hk2.cell (p := ⟨w.heap.size + 1, 1, none⟩) hlp hne).trans s1
      have s2' := (hk2.cell (p := ⟨w.heap.size + 1, 2, none⟩) hlp hne).trans s2
      have g2' : w'.frozen? ⟨w.heap.size + 1, 2, none⟩ = false := (World.frozen?_of_block (w := wr) (hk2.block _ hlp hne)).trans g2
      have hk3 : Keep (fun k => k = w.heap.size + 1 ∨ w.heap.size + 2 ≤ k) W0 w' := hk.trans (hk2.weak (fun k _ h => .inr (hown.lt k h).1))
      have hk4 := hk3.setCell (p := ⟨w.heap.size + 1, 2, none⟩) (.inl (.inl rfl)) (.slice Av (i + 1) cA)
      have hown3 : (w'.setCell ⟨w.heap.size + 1, 2, none⟩ (.slice Av (i + 1) cA)).ownsRow (w.heap.size + 2) 22 1 (.slice Av (i + 1) cA) (i + 1) (List.replicate (i + 1) (fv x)) := by
        rw [List.replicate_succ']
        exact own_keep hown' ((Keep.refl (fun k => k = w.heap.size + 1) w').setCell (.inl rfl) _) (fun g hg e => by have := (hown'.lt g hg).1; omega)
      have c2 := World.cell?_setCell_same w' ⟨w.heap.size + 1, 2, none⟩ (.slice Av (i + 1) cA) s2'
      have c0 : (w'.setCell ⟨w.heap.size + 1, 2, none⟩ (.slice Av (i + 1) cA)).cell? ⟨w.heap.size + 1, 0, none⟩ = some (.int .i64 W) := (World.cell?_setCell_other _ _ _ _ (by simp)).trans s0'
      have c1 : (w'.setCell ⟨w.heap.size + 1, 2, none⟩ (.slice Av (i + 1) cA)).cell? ⟨w.heap.size + 1, 1, none⟩ = some (.int .i64 H) := (World.cell?_setCell_other _ _ _ _ (by simp)).trans s1'
      have c3 : (w'.setCell ⟨w.heap.size + 1, 2, none⟩ (.slice Av (i + 1) cA)).frozen? ⟨w.heap.size + 1, 2, none⟩ = false := by simpa using g2'
      have HH := Lib.hid (And.intro hown3 (And.intro c0 (And.intro c1 (And.intro c2 (And.intro c3 hk4)))))
      clear hown3 c0 c1 c2 c3 hk4 hk3 hown' hk2 hown hpl
      go_wp2
      go_roundw
      case rel => exact ⟨i + 1, _, by omega, by go_num, HH.out.1, HH.out.2.1, HH.out.2.2.1, HH.out.2.2.2.1, HH.out.2.2.2.2.1, HH.out.2.2.2.2.2⟩
      case measure => simp [intOf]; omega
    · obtain rfl : i = W * H := by omega
      have hlt' : ¬ ((W * H : Nat) : Int) < (W : Int) * (H : Int) := by omega
      obtain ⟨B, c2, rfl⟩ := own_slice hown
      have zb : w.heap.size < W0.heap.size := by omega
      have hkb : ¬ (w.heap.size = w.heap.size + 1 ∨ w.heap.size + 2 ≤ w.heap.size) := by omega
      have d0 := (hk.cell (p := ⟨w.heap.size, 0, none⟩) zb hkb).trans d0
      have d1 := (hk.cell (p := ⟨w.heap.size, 1, none⟩) zb hkb).trans d1
      have d2 := (hk.cell (p := ⟨w.heap.size, 2, none⟩) zb hkb).trans d2
      have f0 : wr.frozen? ⟨w.heap.size, 0, none⟩ = false := (World.frozen?_of_block (w := W0) (hk.block _ zb hkb)).trans f0
      have f1 : wr.frozen? ⟨w.heap.size, 1, none⟩ = false := (World.frozen?_of_block (w := W0) (hk.block _ zb hkb)).trans f1
      have f2 : wr.frozen? ⟨w.heap.size, 2, none⟩ = false := (World.frozen?_of_block (w := W0) (hk.block _ zb hkb)).trans f2
      have KR : Below w.heap.size w wr := hk.below K0 (by omega) (fun k h => by omega)
      have o2 : OwnS (w.heap.size + 2) wr B ((List.replicate (W * H) x).map fv) := by rw [List.map_replicate]; exact OwnS.of_own hown
      have zr2 : w.heap.size < wr.heap.size := by omega
      clear hk hown K0
      go_wp2_with fail
      have I := l05Give_any W H B c2 (List.replicate (W * H) x) wr o2.1 (by rw [List.length_replicate]; unfold maxLen; omega)
      rw [sh_rep hW hH, List.length_replicate] at I
      refine I.mono ?_
      rintro e w3 ⟨rfl, k3⟩
      clear I
      have d0 := (k3.cell (p := ⟨w.heap.size, 0, none⟩) zr2).trans d0
      have d1 := (k3.cell (p := ⟨w.heap.size, 1, none⟩) zr2).trans d1
      have d2 := (k3.cell (p := ⟨w.heap.size, 2, none⟩) zr2).trans d2
      have f0 := (k3.frozen (p := ⟨w.heap.size, 0, none⟩) zr2).trans f0
      have f1 := (k3.frozen (p := ⟨w.heap.size, 1, none⟩) zr2).trans f1
      have f2 := (k3.frozen (p := ⟨w.heap.size, 2, none⟩) zr2).trans f2
      have O3 := Lib.hid (o2.below k3)
      have KK := Lib.hid (Below.step KR k3)
      have z3 : w.heap.size < w3.heap.size := Nat.lt_of_lt_of_le zr2 k3.size
      clear k3 o2 KR
      have G := fun w' (o : OwnS w.heap.size w' B ((List.replicate (W * H) x).map fv)) k => Lib.hid (fl_give (c := c2) hW hH (w := w) o k)
      cases hf : finB (cn .f32 x)
      · simp only [hf, if_false, Bool.false_eq_true] at G
        go_wp2
        refine bodyPost_ret (v := .tuple #[shv 0 0 none 0 0, .bool false]) (by simp [results, Try.results33, go_sem, d0, d1, d2]) rfl ?_
        exact (G _ ((own_put3 O3.out (by omega) _ _ _).less (by omega)) (below_put3 KK.out (Nat.le_refl _))).out
      · simp only [hf, if_true] at G
        go_wp2
        refine bodyPost_ret (v := .tuple #[shv W H B (W * H) c2, .bool true]) (by simp [results, Try.results33, go_sem, d0, d1, d2]) rfl ?_
        exact (G _ ((own_put3 O3.out (by omega) _ _ _).less (by omega)) (below_put3 KK.out (Nat.le_refl _))).out
theorem fl_no {sw sh : Int} {x : Nat} (h : sideB sw sh = false) {w w' : World} (k : Below w.heap.size w w') : SheetR w (flW sw sh x) (flH sw sh x) (flL sw sh x) (flB sw sh x) (.returned (.tuple #[shv 0 0 none 0 0, .bool false])) w' := by
  have hb : flB sw sh x = false := by unfold flB; rw [h]; rfl
  unfold flW flH flL
  rw [hb]
  exact sheetR_none k
set_option maxHeartbeats 1000000 in
theorem specFl_any (sw sh : Int) (x : Nat) (w : World) : Calls Try.prog 33 #[.int .i64 sw, .int .i64 sh, .float .f32 x] w (SheetR w (flW sw sh x) (flH sw sh x) (flL sw sh x) (flB sw sh x)) := by
  by_cases hW : 1 ≤ sw ∧ sw ≤ 17
  · by_cases hH : 1 ≤ sh ∧ sh ≤ 17
    · obtain ⟨W, rfl⟩ : ∃ W : Nat, sw = W := ⟨sw.toNat, by omega⟩
      obtain ⟨H, rfl⟩ : ∃ H : Nat, sh = H := ⟨sh.toNat, by omega⟩
      exact specFl_yes W H x w (by omega) (by omega)
    · have hs : sideB sw sh = false := by unfold sideB; simp; omega
      have G := fun w' k => Lib.hid (fl_no (x := x) hs (w := w) (w' := w') k)
      go_enter Try.func33, Try.ntmps33
      go_wp2_with fail
      refine (l05Sides_any _ _ _).mono ?_
      rintro e w1 ⟨rfl, rfl⟩
      rw [hs]
      go_wp2
      refine bodyPost_ret (v := .tuple #[shv 0 0 none 0 0, .bool false]) (by simp [results, Try.results33, go_sem]) rfl ?_
      first | exact (G _ (below_put3 (below_alloc _ _) (Nat.le_refl _))).out | exact (G _ (below_alloc _ _)).out | exact (G _ (Below.step (below_alloc _ _) (below_alloc _ _))).out
  · have hs : sideB sw sh = false := by unfold sideB; simp; omega
    have G := fun w' k => Lib.hid (fl_no (x := x) hs (w := w) (w' := w') k)
    go_enter Try.func33, Try.ntmps33
    go_wp2_with fail
    refine (l05Sides_any _ _ _).mono ?_
    rintro e w1 ⟨rfl, rfl⟩
    rw [hs]
    go_wp2
    refine bodyPost_ret (v := .tuple #[shv 0 0 none 0 0, .bool false]) (by simp [results, Try.results33, go_sem]) rfl ?_
    first | exact (G _ (below_put3 (below_alloc _ _) (Nat.le_refl _))).out | exact (G _ (below_alloc _ _)).out | exact (G _ (Below.step (below_alloc _ _) (below_alloc _ _))).out
set_option maxHeartbeats 1000000 in
theorem implFl_any (sw sh : Int) (x : Nat) (w : World) : Calls Try.prog 34 #[.int .i64 sw, .int .i64 sh, .float .f32 x] w (SheetR w (flW sw sh x) (flH sw sh x) (flL sw sh x) (flB sw sh x)) := by
  by_cases hW : 1 ≤ sw ∧ sw ≤ 17
  · by_cases hH : 1 ≤ sh ∧ sh ≤ 17
    · obtain ⟨W, rfl⟩ : ∃ W : Nat, sw = W := ⟨sw.toNat, by omega⟩
      obtain ⟨H, rfl⟩ : ∃ H : Nat, sh = H := ⟨sh.toNat, by omega⟩
      exact implFl_yes W H x w (by omega) (by omega)
    · have hs : sideB sw sh = false := by unfold sideB; simp; omega
      have G := fun w' k => Lib.hid (fl_no (x := x) hs (w := w) (w' := w') k)
      go_enter Try.func34, Try.ntmps34
      go_wp2_with fail
      refine (side_yes _ _ hW).mono ?_
      rintro e w1 ⟨rfl, rfl⟩
      go_wp2_with fail
      refine (side_no _ _ (by omega)).mono ?_
      rintro e w1 ⟨rfl, rfl⟩
      go_wp2
      refine bodyPost_ret (v := .tuple #[shv 0 0 none 0 0, .bool false]) (by simp [results, Try.results34, go_sem]) rfl ?_
      first | exact (G _ (below_put3 (below_alloc _ _) (Nat.le_refl _))).out | exact (G _ (below_alloc _ _)).out | exact (G _ (Below.step (below_alloc _ _) (below_alloc _ _))).out
  · have hs : sideB sw sh = false := by unfold sideB; simp; omega
    have G := fun w' k => Lib.hid (fl_no (x := x) hs (w := w) (w' := w') k)
    go_enter Try.func34, Try.ntmps34
    go_wp2_with fail
    refine (side_no _ _ (by omega)).mono ?_
    rintro e w1 ⟨rfl, rfl⟩
    go_wp2
    refine bodyPost_ret (v := .tuple #[shv 0 0 none 0 0, .bool false]) (by simp [results, Try.results34, go_sem]) rfl ?_
    first | exact (G _ (below_put3 (below_alloc _ _) (Nat.le_refl _))).out | exact (G _ (below_alloc _ _)).out | exact (G _ (Below.step (below_alloc _ _) (below_alloc _ _))).out
theorem flL_len (sw sh : Int) (x : Nat) : (flL sw sh x).length ≤ 289 := by
  unfold flL
  split
  · rename_i h
    unfold flB sideB at h
    simp at h
    rw [List.length_replicate]
    have hm2 : sw * sh ≤ 17 * 17 := Int.mul_le_mul (by omega) (by omega) (by omega) (by omega)
    omega
  · exact Nat.zero_le _
end Go.Proofs.Ytenepnbickpcjaa
