/- LatticeAt, both sides, and its law's walk. -/
import Derived.Test.YtenepnbickpcjaaDraw
namespace Go.Proofs.Ytenepnbickpcjaa
open Go.RowKit

def latK (s x y : Int) : Int := (s + 374761393 * x + 668265263 * y) % 2147483648
def itS : Nat → Int → Int
  | 0, k => k
  | j + 1, k => nextI (itS j k)
theorem latK_bd (s x y : Int) : 0 ≤ latK s x y ∧ latK s x y ≤ 2147483647 := by unfold latK; omega
theorem itS_bd (j : Nat) (k : Int) (h : 0 ≤ k ∧ k ≤ 2147483647) : 0 ≤ itS j k ∧ itS j k ≤ 2147483647 := by
  cases j with
  | zero => exact h
  | succ j => exact nextI_bd _
def latF (s x y : Int) : Nat := drawnF (itS 3 (latK s x y))
def FloatR (w : World) (X : Nat) (e : Ending) (w' : World) : Prop := ∃ b n, e = .returned (.float .f32 b) ∧ cn .f32 b = X ∧ w' = w.drewN n
def NumR (w : World) (X : Nat) (ok : Bool) (e : Ending) (w' : World) : Prop := ∃ b n, e = .returned (.tuple #[.float .f32 b, .bool ok]) ∧ cn .f32 b = X ∧ w' = w.drewN n

theorem l05Lattice_any (s x y : Int) (w : World) (s0 : 0 ≤ s) (s1 : s ≤ 2147483647) (x0 : 0 ≤ x) (x1 : x ≤ 1000001) (y0 : 0 ≤ y) (y1 : y ≤ 1000001) :
    Calls Try.prog 44 #[.int .i64 s, .int .i64 x, .int .i64 y] w (FloatR w (latF s x y)) := by
  have hk : (s + 374761393 * x + 668265263 * y) % 2147483648 = latK s x y := rfl
  obtain ⟨k0, k1⟩ := latK_bd s x y
  obtain ⟨a0, a1⟩ := nextI_bd (latK s x y)
  obtain ⟨b0, b1⟩ := nextI_bd (nextI (latK s x y))
  obtain ⟨c0, c1⟩ := nextI_bd (nextI (nextI (latK s x y)))
  go_enter Try.func44, Try.ntmps44
  go_wp2_with fail
  refine (l05Next_any _ _ k0 k1).mono ?_
  rintro e w1 ⟨rfl, rfl⟩
  go_wp2_with fail
  refine (l05Next_any _ _ a0 a1).mono ?_
  rintro e w1 ⟨rfl, rfl⟩
  go_wp2_with fail
  refine (l05Next_any _ _ b0 b1).mono ?_
  rintro e w1 ⟨rfl, rfl⟩
  go_wp2_with fail
  refine (l05Drawn_any _ _ c0 c1).mono ?_
  rintro e w1 ⟨b, n, rfl, hx, rfl⟩
  have HX := Lib.hid hx
  clear hx hk
  go_wp2
  go_ret
  exact ⟨_, _, rfl, HX.out, rfl⟩

theorem lattice_any (s x y : Int) (w : World) (s0 : 0 ≤ s) (s1 : s ≤ 2147483647) (x0 : 0 ≤ x) (x1 : x ≤ 1000001) (y0 : 0 ≤ y) (y1 : y ≤ 1000001) :
    Calls Try.prog 47 #[.int .i64 s, .int .i64 x, .int .i64 y] w (FloatR w (latF s x y)) := by
  have hk : (s + 374761393 * x + 668265263 * y) % 2147483648 = latK s x y := rfl
  have hK := latK_bd s x y
  go_enter Try.func47, Try.ntmps47
  go_wp2_with fail
  clear hk
  go_loopw [0, 7, 16] (fun sd d i wr => ∃ j b m : Nat, j ≤ 3 ∧ i = .int .i64 j ∧ sd = .int .i64 (itS j (latK s x y)) ∧ d = .float .f32 b ∧ wr = w.drewN m ∧ Hid (0 < j → cn .f32 b = drawnF (itS j (latK s x y)))) (fun _ _ i _ => 3 - (intOf i).toNat)
  case atStart => exact ⟨0, _, 0, by omega, rfl, rfl, rfl, rfl, Lib.hid (fun h => absurd h (by omega))⟩
  case round =>
    obtain ⟨j, b, m, hj, rfl, rfl, rfl, rfl, HD⟩ := hrel
    by_cases hlt : j < 3
    · obtain ⟨i0, i1⟩ := itS_bd j _ hK
      go_wp2_with fail
      refine (draw_any _ _ i0 i1).mono ?_
      rintro e w1 ⟨b1, n1, rfl, hx, rfl⟩
      have HX := Lib.hid hx
      clear hx
      go_wp2
      go_roundw
      case rel => exact ⟨j + 1, _, _, by omega, by go_num, rfl, rfl, rfl, Lib.hid (fun _ => HX.out)⟩
      case measure => simp [intOf]; omega
    · obtain rfl : j = 3 := by omega
      go_wp2
      go_ret
      exact ⟨_, _, rfl, HD.out (by omega), rfl⟩

def latOk (s x y : Int) : Bool := (decide (0 ≤ s) && decide (s ≤ 2147483647)) && (decide (0 ≤ x) && decide (x ≤ 1000000)) && (decide (0 ≤ y) && decide (y ≤ 1000000))
def latX (s x y : Int) : Nat := if latOk s x y then latF s x y else cn .f32 0

theorem specLat (s x y : Int) (w : World) : Calls Try.prog 13 #[.int .i64 s, .int .i64 x, .int .i64 y] w (NumR w (latX s x y) (latOk s x y)) := by
  cases hs : (decide (0 ≤ s) && decide (s ≤ 2147483647))
  · have ho : latOk s x y = false := by unfold latOk; rw [hs]; rfl
    unfold latX
    rw [ho]
    clear ho
    go_enter Try.func13, Try.ntmps13
    go_wp2_with fail
    refine (l05Seed_any _ _).mono ?_
    rintro e w1 ⟨rfl, rfl⟩
    rw [hs]
    clear hs
    go_wp2_with fail
    go_ret2
    exact ⟨_, 0, rfl, rfl, rfl⟩
  · cases hx : (decide (0 ≤ x) && decide (x ≤ 1000000))
    · have ho : latOk s x y = false := by unfold latOk; rw [hs, hx]; rfl
      unfold latX
      rw [ho]
      clear ho
      go_enter Try.func13, Try.ntmps13
      go_wp2_with fail
      refine (l05Seed_any _ _).mono ?_
      rintro e w1 ⟨rfl, rfl⟩
      rw [hs]
      clear hs
      go_wp2_with fail
      refine (in_any _ _ _ _).mono ?_
      rintro e w1 ⟨rfl, rfl⟩
      rw [hx]
      clear hx
      go_wp2_with fail
      go_ret2
      exact ⟨_, 0, rfl, rfl, rfl⟩
    · cases hy : (decide (0 ≤ y) && decide (y ≤ 1000000))
      · have ho : latOk s x y = false := by unfold latOk; rw [hs, hx, hy]; rfl
        unfold latX
        rw [ho]
        clear ho
        go_enter Try.func13, Try.ntmps13
        go_wp2_with fail
        refine (l05Seed_any _ _).mono ?_
        rintro e w1 ⟨rfl, rfl⟩
        rw [hs]
        clear hs
        go_wp2_with fail
        refine (in_any _ _ _ _).mono ?_
        rintro e w1 ⟨rfl, rfl⟩
        rw [hx]
        clear hx
        go_wp2_with fail
        refine (in_any _ _ _ _).mono ?_
        rintro e w1 ⟨rfl, rfl⟩
        rw [hy]
        clear hy
        go_wp2_with fail
        go_ret2
        exact ⟨_, 0, rfl, rfl, rfl⟩
      · have ho : latOk s x y = true := by unfold latOk; rw [hs, hx, hy]; rfl
        unfold latX
        rw [ho]
        clear ho
        simp only [if_true]
        obtain ⟨s0, s1⟩ : 0 ≤ s ∧ s ≤ 2147483647 := by simpa using hs
        obtain ⟨x0, x1⟩ : 0 ≤ x ∧ x ≤ 1000000 := by simpa using hx
        obtain ⟨y0, y1⟩ : 0 ≤ y ∧ y ≤ 1000000 := by simpa using hy
        have HS := Lib.hid hs
        have HX := Lib.hid hx
        have HY := Lib.hid hy
        clear hs hx hy
        go_enter Try.func13, Try.ntmps13
        go_wp2_with fail
        refine (l05Seed_any _ _).mono ?_
        rintro e w1 ⟨rfl, rfl⟩
        rw [HS.out]
        go_wp2_with fail
        refine (in_any _ _ _ _).mono ?_
        rintro e w1 ⟨rfl, rfl⟩
        rw [HX.out]
        go_wp2_with fail
        refine (in_any _ _ _ _).mono ?_
        rintro e w1 ⟨rfl, rfl⟩
        rw [HY.out]
        go_wp2_with fail
        refine (l05Lattice_any _ _ _ _ s0 s1 x0 (by omega) y0 (by omega)).mono ?_
        rintro e w1 ⟨b, n, rfl, hb, rfl⟩
        have HB := Lib.hid hb
        clear hb
        go_wp2
        go_ret2
        exact ⟨_, _, rfl, HB.out, rfl⟩

theorem implLat (s x y : Int) (w : World) : Calls Try.prog 14 #[.int .i64 s, .int .i64 x, .int .i64 y] w (NumR w (latX s x y) (latOk s x y)) := by
  cases hs : (decide (0 ≤ s) && decide (s ≤ 2147483647))
  · have ho : latOk s x y = false := by unfold latOk; rw [hs]; rfl
    unfold latX
    rw [ho]
    clear ho
    go_enter Try.func14, Try.ntmps14
    go_wp2_with fail
    refine (isSeed_any _ _).mono ?_
    rintro e w1 ⟨rfl, rfl⟩
    rw [hs]
    clear hs
    go_wp2_with fail
    go_ret2
    exact ⟨_, 0, rfl, rfl, rfl⟩
  · cases hx : (decide (0 ≤ x) && decide (x ≤ 1000000))
    · have ho : latOk s x y = false := by unfold latOk; rw [hs, hx]; rfl
      unfold latX
      rw [ho]
      clear ho
      go_enter Try.func14, Try.ntmps14
      go_wp2_with fail
      refine (isSeed_any _ _).mono ?_
      rintro e w1 ⟨rfl, rfl⟩
      rw [hs]
      clear hs
      go_wp2_with fail
      refine (within_any _ _ _ _).mono ?_
      rintro e w1 ⟨rfl, rfl⟩
      rw [hx]
      clear hx
      go_wp2_with fail
      go_ret2
      exact ⟨_, 0, rfl, rfl, rfl⟩
    · cases hy : (decide (0 ≤ y) && decide (y ≤ 1000000))
      · have ho : latOk s x y = false := by unfold latOk; rw [hs, hx, hy]; rfl
        unfold latX
        rw [ho]
        clear ho
        go_enter Try.func14, Try.ntmps14
        go_wp2_with fail
        refine (isSeed_any _ _).mono ?_
        rintro e w1 ⟨rfl, rfl⟩
        rw [hs]
        clear hs
        go_wp2_with fail
        refine (within_any _ _ _ _).mono ?_
        rintro e w1 ⟨rfl, rfl⟩
        rw [hx]
        clear hx
        go_wp2_with fail
        refine (within_any _ _ _ _).mono ?_
        rintro e w1 ⟨rfl, rfl⟩
        rw [hy]
        clear hy
        go_wp2_with fail
        go_ret2
        exact ⟨_, 0, rfl, rfl, rfl⟩
      · have ho : latOk s x y = true := by unfold latOk; rw [hs, hx, hy]; rfl
        unfold latX
        rw [ho]
        clear ho
        simp only [if_true]
        obtain ⟨s0, s1⟩ : 0 ≤ s ∧ s ≤ 2147483647 := by simpa using hs
        obtain ⟨x0, x1⟩ : 0 ≤ x ∧ x ≤ 1000000 := by simpa using hx
        obtain ⟨y0, y1⟩ : 0 ≤ y ∧ y ≤ 1000000 := by simpa using hy
        have HS := Lib.hid hs
        have HX := Lib.hid hx
        have HY := Lib.hid hy
        clear hs hx hy
        go_enter Try.func14, Try.ntmps14
        go_wp2_with fail
        refine (isSeed_any _ _).mono ?_
        rintro e w1 ⟨rfl, rfl⟩
        rw [HS.out]
        go_wp2_with fail
        refine (within_any _ _ _ _).mono ?_
        rintro e w1 ⟨rfl, rfl⟩
        rw [HX.out]
        go_wp2_with fail
        refine (within_any _ _ _ _).mono ?_
        rintro e w1 ⟨rfl, rfl⟩
        rw [HY.out]
        go_wp2_with fail
        refine (lattice_any _ _ _ _ s0 s1 x0 (by omega) y0 (by omega)).mono ?_
        rintro e w1 ⟨b, n, rfl, hb, rfl⟩
        have HB := Lib.hid hb
        clear hb
        go_wp2
        go_ret2
        exact ⟨_, _, rfl, HB.out, rfl⟩

theorem latticeLaw (s x y : Int) (w : World) : Calls Try.prog 3 #[.int .i64 s, .int .i64 x, .int .i64 y] w fun e w' => e = .returned (.bool true) ∧ Below w.heap.size w w' := by
  go_enter Try.func3, Try.ntmps3
  go_wp2_with fail
  refine (specLat _ _ _ _).mono ?_
  rintro e w1 ⟨b, n, rfl, hx, rfl⟩
  have HX := Lib.hid hx
  clear hx
  go_wp2_with fail
  refine (implLat _ _ _ _).mono ?_
  rintro e w1 ⟨b', n', rfl, hx', rfl⟩
  have HX' := Lib.hid hx'
  clear hx'
  go_wp2_with fail
  refine (sameFloat_ok _ _ (by rw [cn_wres, cn_wres, HX.out, HX'.out]) _).mono ?_
  rintro e w1 ⟨rfl, m, rfl⟩
  go_wp2
  go_ret
  exact ⟨rfl, below_drewN (Below.refl _ _) _⟩
end Go.Proofs.Ytenepnbickpcjaa
