/- VariogramOf, both sides at every input, and its law's walk. -/
import Derived.Test.YtcdipgkdbannmaaVario
import Derived.Deep.RegionWith
import Derived.BigRegion
namespace Go.Proofs.Ytcdipgkdbannmaa
open Go.RowKit

def vgOk (sw sh : Int) (xs : List Nat) (lag : Int) : Bool := shB sw sh xs && (decide (1 ≤ lag) && decide (lag ≤ 17))
def vgX (sw sh : Int) (xs : List Nat) (lag : Int) : Nat := if vgOk sw sh xs lag then vaX xs sw.toNat sh.toNat lag.toNat else cn .f32 0
def vgB (sw sh : Int) (xs : List Nat) (lag : Int) : Bool := if vgOk sw sh xs lag then vaB xs sw.toNat sh.toNat lag.toNat else false
theorem NumR.w {w w1 : World} {X : Nat} {ok : Bool} {e : Ending} {w' : World} (h : NumR w1 X ok e w') (k : Below w.heap.size w w1) : NumB w X ok e w' := by
  obtain ⟨b, n, rfl, h, rfl⟩ := h
  exact ⟨b, rfl, h, below_drewN k n⟩
theorem vg_bad {sw sh : Int} {xs : List Nat} {lag : Int} {w w' : World} (h : vgOk sw sh xs lag = false) (k : Below w.heap.size w w') : NumB w (vgX sw sh xs lag) (vgB sw sh xs lag) (.returned (.tuple #[.float .f32 0, .bool false])) w' :=
  ⟨0, by unfold vgB; rw [h]; rfl, by unfold vgX; rw [h]; rfl, k⟩
theorem vg_lag {sw sh : Int} {xs : List Nat} {lag : Int} (h : ¬ (1 ≤ lag ∧ lag ≤ 17)) : vgOk sw sh xs lag = false := by
  unfold vgOk
  have : (decide (1 ≤ lag) && decide (lag ≤ 17)) = false := by simp; omega
  rw [this, Bool.and_false]
theorem vg_sheet {sw sh : Int} {xs : List Nat} {lag : Int} (h : shB sw sh xs = false) : vgOk sw sh xs lag = false := by unfold vgOk; rw [h]; rfl
/-- Where all is valid the sides and the lag are natural numbers. -/
theorem vg_nat {sw sh : Int} {xs : List Nat} {lag : Int} (hs : shB sw sh xs = true) (hl : 1 ≤ lag ∧ lag ≤ 17) : ∃ W H L : Nat, sw = W ∧ sh = H ∧ lag = L ∧ 1 ≤ L ∧ L ≤ 17 ∧ vgX sw sh xs lag = vaX xs W H L ∧ vgB sw sh xs lag = vaB xs W H L := by
  obtain ⟨a, b, c, d, _, _⟩ := shB_all hs
  have ho : vgOk sw sh xs lag = true := by unfold vgOk; rw [hs, decide_eq_true hl.1, decide_eq_true hl.2]; rfl
  exact ⟨sw.toNat, sh.toNat, lag.toNat, by omega, by omega, by omega, by omega, by omega, by unfold vgX; rw [ho]; rfl, by unfold vgB; rw [ho]; rfl⟩
set_option maxHeartbeats 1000000 in
theorem implVG_any (sw sh : Int) (A : Option Addr) (c : Nat) (xs : List Nat) (lag : Int) (w : World) (hA : FRd w A xs) (hn : xs.length ≤ maxLen) :
    Calls Try.prog 12 #[shv sw sh A xs.length c, .int .i64 lag] w (NumB w (vgX sw sh xs lag) (vgB sw sh xs lag)) := by
  have hA1 := Rd.below hA (below_alloc _ (.cells #[.int .i64 sw, .int .i64 sh, .slice A xs.length c] 29))
  cases hs : shB sw sh xs
  · have B := fun w1 k => Lib.hid (vg_bad (w := w) (w' := w1) (vg_sheet (sw := sw) (sh := sh) (xs := xs) (lag := lag) hs) k)
    go_enter Try.func12, Try.ntmps12
    go_wp2_with fail
    refine (implValid_any sw sh A c xs _ hA1 hn).mono ?_
    rintro e w1 ⟨rfl, k1⟩
    rw [hs]
    have K1 := Below.step (below_alloc _ _) k1
    clear k1
    go_wp2
    go_ret2
    exact (B _ K1).out
  · by_cases hl : 1 ≤ lag ∧ lag ≤ 17
    · obtain ⟨W, H, L, rfl, rfl, rfl, h1, h2, hX, hB⟩ := vg_nat hs hl
      rw [hX, hB]
      exact implV_any W H A c xs L w hA hn hs h1 h2
    · have B := fun w1 k => Lib.hid (vg_bad (w := w) (w' := w1) (vg_lag (sw := sw) (sh := sh) (xs := xs) hl) k)
      go_enter Try.func12, Try.ntmps12
      go_wp2_with fail
      refine (implValid_any sw sh A c xs _ hA1 hn).mono ?_
      rintro e w1 ⟨rfl, k1⟩
      rw [hs]
      have K1 := Below.step (below_alloc _ _) k1
      clear k1
      go_wp2_with fail
      refine (side_no _ _ (by omega)).mono ?_
      rintro e w2 ⟨rfl, rfl⟩
      go_wp2
      go_ret2
      exact (B _ K1).out
set_option maxHeartbeats 1000000 in
theorem specVG_any (sw sh : Int) (A : Option Addr) (c : Nat) (xs : List Nat) (lag : Int) (w : World) (hA : FRd w A xs) (hn : xs.length ≤ maxLen) :
    Calls Try.prog 10 #[shv sw sh A xs.length c, .int .i64 lag] w (NumB w (vgX sw sh xs lag) (vgB sw sh xs lag)) := by
  have hA1 := Rd.below hA (below_alloc _ (.cells #[.int .i64 sw, .int .i64 sh, .slice A xs.length c] 29))
  cases hs : shB sw sh xs
  · have B := fun w1 k => Lib.hid (vg_bad (w := w) (w' := w1) (vg_sheet (sw := sw) (sh := sh) (xs := xs) (lag := lag) hs) k)
    go_enter Try.func10, Try.ntmps10
    go_wp2_with fail
    refine (l05Is_any _ sw sh A c xs _ hA1 hn (by simp) (by simp) (by simp)).mono ?_
    rintro e w1 ⟨rfl, n, rfl⟩
    rw [hs]
    go_wp2
    go_ret2
    exact (B _ (below_drewN (below_alloc _ _) _)).out
  · by_cases hl : 1 ≤ lag ∧ lag ≤ 17
    · obtain ⟨W, H, L, rfl, rfl, rfl, h1, h2, hX, hB⟩ := vg_nat hs hl
      rw [hX, hB]
      go_enter Try.func10, Try.ntmps10
      go_wp2_with fail
      refine (l05Is_any _ W H A c xs _ hA1 hn (by simp) (by simp) (by simp)).mono ?_
      rintro e w1 ⟨rfl, n, rfl⟩
      rw [hs]
      go_wp2_with fail
      refine (in_yes _ _ _ _ hl).mono ?_
      rintro e w2 ⟨rfl, rfl⟩
      go_wp2_with fail
      have d0 : (w.alloc (.cells #[.int .i64 W, .int .i64 H, .slice A xs.length c] 29)).cell? ⟨w.heap.size, 0, none⟩ = some (.int .i64 W) := by simp
      have d1 : (w.alloc (.cells #[.int .i64 W, .int .i64 H, .slice A xs.length c] 29)).cell? ⟨w.heap.size, 1, none⟩ = some (.int .i64 H) := by simp
      have d2 : (w.alloc (.cells #[.int .i64 W, .int .i64 H, .slice A xs.length c] 29)).cell? ⟨w.heap.size, 2, none⟩ = some (.slice A xs.length c) := by simp
      refine (l05Variogram_any W H A c xs L w.heap.size _ (Rd.drewN hA1 n) hs h1 h2 d0 d1 d2).mono ?_
      rintro e w3 ⟨b3, n3, rfl, e3, rfl⟩
      have E3 := Lib.hid e3
      clear e3
      go_wp2
      go_ret2
      exact ⟨_, rfl, E3.out, below_drewN (below_alloc _ _) (n + n3)⟩
    · have B := fun w1 k => Lib.hid (vg_bad (w := w) (w' := w1) (vg_lag (sw := sw) (sh := sh) (xs := xs) hl) k)
      go_enter Try.func10, Try.ntmps10
      go_wp2_with fail
      refine (l05Is_any _ sw sh A c xs _ hA1 hn (by simp) (by simp) (by simp)).mono ?_
      rintro e w1 ⟨rfl, n, rfl⟩
      rw [hs]
      go_wp2_with fail
      refine (in_no _ _ _ _ (by omega)).mono ?_
      rintro e w2 ⟨rfl, rfl⟩
      go_wp2
      go_ret2
      exact (B _ (below_drewN (below_alloc _ _) _)).out

set_option maxHeartbeats 2000000 in
theorem varioLaw (sw sh : Int) (A : Option Addr) (c : Nat) (xs : List Nat) (lag : Int) (w : World) (hA : FRd w A xs) (hn : xs.length ≤ maxLen) :
    Calls Try.prog 3 #[shv sw sh A xs.length c, .int .i64 lag] w fun e w' => e = .returned (.bool true) ∧ Below w.heap.size w w' := by
  by_cases hl : xs.length ≤ 1048576
  · go_enter Try.func3, Try.ntmps3
    go_wp2_with fail
    refine (szSheet_few _ _ _ _ _ 1048576 _ (Nat.le_refl _) hl).mono ?_
    rintro e w1 ⟨rfl, k1⟩
    have z1 : w.heap.size < w1.heap.size := by have := k1.size; simp at this; omega
    have a0 : w1.cell? ⟨w.heap.size, 0, none⟩ = some (.int .i64 sw) := (k1.cell (by simp)).trans (by simp)
    have a1 : w1.cell? ⟨w.heap.size, 1, none⟩ = some (.int .i64 sh) := (k1.cell (by simp)).trans (by simp)
    have a2 : w1.cell? ⟨w.heap.size, 2, none⟩ = some (.slice A xs.length c) := (k1.cell (by simp)).trans (by simp)
    have hA1 := (Rd.below hA (below_alloc _ _)).below k1
    have K1 := Below.step (below_alloc _ _) k1
    clear k1
    go_wp2_with fail
    refine (toSheet_any _ _ _ _ _ _ hA1 (by omega)).mono ?_
    rintro e w2 ⟨B2, c2, rfl, o2, k2⟩
    have z2 : w.heap.size < w2.heap.size := Nat.lt_of_lt_of_le z1 k2.size
    have a0 := (k2.cell z1).trans a0
    have a1 := (k2.cell z1).trans a1
    have a2 := (k2.cell z1).trans a2
    have hA2 := Rd.below hA1 k2
    have K2 := Below.step K1 k2
    clear k2 K1 hA1
    go_wp2_with fail
    refine (specVG_any _ _ _ _ _ lag _ o2.1 hn).mono ?_
    rintro e w3 ⟨p1, rfl, e1, k3⟩
    have E1 := Lib.hid e1
    clear e1
    have z3 : w.heap.size < w3.heap.size := Nat.lt_of_lt_of_le z2 k3.size
    have a0 := (k3.cell z2).trans a0
    have a1 := (k3.cell z2).trans a1
    have a2 := (k3.cell z2).trans a2
    have hA3 := Rd.below hA2 k3
    have K3 := Below.step K2 k3
    clear k3 K2 hA2 o2
    go_wp2_with fail
    refine (toSheet_any _ _ _ _ _ _ hA3 (by omega)).mono ?_
    rintro e w4 ⟨B4, c4, rfl, o4, k4⟩
    have z4 : w.heap.size < w4.heap.size := Nat.lt_of_lt_of_le z3 k4.size
    have a0 := (k4.cell z3).trans a0
    have a1 := (k4.cell z3).trans a1
    have a2 := (k4.cell z3).trans a2
    have hA4 := Rd.below hA3 k4
    have K4 := Below.step K3 k4
    clear k4 K3 hA3
    go_wp2_with fail
    refine (implVG_any _ _ _ _ _ lag _ (Rd.below o4.1 (below_alloc _ _)) hn).mono ?_
    rintro e w5 ⟨q1, rfl, e3, k5⟩
    have E3 := Lib.hid e3
    clear e3
    have x0 : w5.cell? ⟨w4.heap.size, 0, none⟩ = some (.int .i64 sw) := (k5.cell (by simp)).trans (by simp)
    have x1 : w5.cell? ⟨w4.heap.size, 1, none⟩ = some (.int .i64 sh) := (k5.cell (by simp)).trans (by simp)
    have x2 : w5.cell? ⟨w4.heap.size, 2, none⟩ = some (.slice B4 xs.length c4) := (k5.cell (by simp)).trans (by simp)
    have y5 : w4.heap.size < w5.heap.size := by have := k5.size; simp at this; omega
    have k5' := Below.step (below_alloc _ _) k5
    have z5 : w.heap.size < w5.heap.size := Nat.lt_of_lt_of_le z4 k5'.size
    have a0 := (k5'.cell z4).trans a0
    have a1 := (k5'.cell z4).trans a1
    have a2 := (k5'.cell z4).trans a2
    have hA5 := Rd.below hA4 k5'
    have h5 := Rd.below o4.1 k5'
    have K5 := Below.step K4 k5'
    clear k5 k5' K4 hA4 o4
    go_wp2_with fail
    refine (sameFloat_ok _ _ (by rw [cn_wres, cn_wres, E3.out, E1.out]) _).mono ?_
    rintro e w6 ⟨rfl, n6, rfl⟩
    go_wp2_with fail
    generalize wdr q1 + wdr p1 + n6 = M
    obtain ⟨w8, hw8⟩ : ∃ w8, w8 = w5.drewN M := ⟨_, rfl⟩
    have x0 : w8.cell? ⟨w4.heap.size, 0, none⟩ = some (.int .i64 sw) := by rw [hw8]; exact x0
    have x1 : w8.cell? ⟨w4.heap.size, 1, none⟩ = some (.int .i64 sh) := by rw [hw8]; exact x1
    have x2 : w8.cell? ⟨w4.heap.size, 2, none⟩ = some (.slice B4 xs.length c4) := by rw [hw8]; exact x2
    have a0 : w8.cell? ⟨w.heap.size, 0, none⟩ = some (.int .i64 sw) := by rw [hw8]; exact a0
    have a1 : w8.cell? ⟨w.heap.size, 1, none⟩ = some (.int .i64 sh) := by rw [hw8]; exact a1
    have a2 : w8.cell? ⟨w.heap.size, 2, none⟩ = some (.slice A xs.length c) := by rw [hw8]; exact a2
    have y8 : w4.heap.size < w8.heap.size := by rw [hw8]; exact y5
    have z8 : w.heap.size < w8.heap.size := by rw [hw8]; exact z5
    have hA8 : FRd w8 A xs := by rw [hw8]; exact hA5
    have h8 : FRd w8 B4 xs := by rw [hw8]; exact h5
    have K8 : Below w.heap.size w w8 := by rw [hw8]; exact below_drewN K5 M
    rw [← hw8]
    clear hw8 K5 h5 hA5 y5 z5
    go_region_with (first
      | (go_at_call 11; refine (toSheet_any _ _ _ _ _ _ (by exact hA8) (by omega)).mono ?_; rintro e w6 ⟨B6, c6, rfl, o6, k6⟩; have x0 := (k6.cell y8).trans x0; have x1 := (k6.cell y8).trans x1; have x2 := (k6.cell y8).trans x2; have h6 := Rd.below (w := w8.drew) (by exact h8) k6; have K6 := Below.step K8.drew k6; clear k6)
      | (go_at_call 14; refine (eqSheet_ok _ _ _ _ _ _ _ _ _ h6 o6.1 hn rfl).mono ?_; rintro e w7 ⟨rfl, k7⟩; have K7 := Below.step K6 k7; clear k7))
    all_goals
      go_wp2
      go_ret
      exact ⟨rfl, K7⟩
  · go_enter Try.func3, Try.ntmps3
    go_wp2_with fail
    refine (szSheet_many _ _ _ _ _ 1048576 _ (Nat.le_refl _) (by omega) hn).mono ?_
    rintro e w1 ⟨rfl, k1⟩
    go_wp2
    go_ret
    exact ⟨rfl, Below.step (below_alloc _ _) k1⟩
end Go.Proofs.Ytcdipgkdbannmaa
