/- OctaveAt, both sides, and its law's walk. -/
import Derived.Test.YtenepnbickpcjaaOctave
import Derived.BigGuardPart
namespace Go.Proofs.Ytenepnbickpcjaa
open Go.RowKit

def geF (x c : Nat) : Bool := ford .f32 x c == some .gt || ford .f32 x c == some .eq
def leF (x c : Nat) : Bool := ford .f32 x c == some .lt || ford .f32 x c == some .eq
def plB (x : Nat) : Bool := geF (cn .f32 x) (cn .f32 0) && leF (cn .f32 x) (cn .f32 1148846080)
theorem key0 : fkey .f32 (cn .f32 0) = 0 := by decide +kernel
theorem key1000 : fkey .f32 (cn .f32 1148846080) = ((1000 * 2 ^ 149 : Nat) : Int) := by decide +kernel
theorem plc_of {x : Nat} (h0 : geF (cn .f32 x) (cn .f32 0) = true) (h1 : leF (cn .f32 x) (cn .f32 1148846080) = true) : Plc x := by
  have a : isN .f32 x = false ∧ 0 ≤ fkey .f32 (cn .f32 x) := by
    unfold geF at h0
    simp only [Bool.or_eq_true, beq_iff_eq] at h0
    rcases h0 with h | h
    · obtain ⟨n1, _, h3⟩ := ford_gt.1 h
      rw [isN_cn] at n1
      rw [key0] at h3
      exact ⟨n1, by omega⟩
    · obtain ⟨n1, _, h3⟩ := ford_eq.1 h
      rw [isN_cn] at n1
      rw [key0] at h3
      exact ⟨n1, by omega⟩
  have b : fkey .f32 (cn .f32 x) ≤ ((1000 * 2 ^ 149 : Nat) : Int) := by
    unfold leF at h1
    simp only [Bool.or_eq_true, beq_iff_eq] at h1
    rcases h1 with h | h
    · have := (ford_lt.1 h).2.2
      rw [key1000] at this
      exact Int.le_of_lt this
    · have := (ford_eq.1 h).2.2
      rw [key1000] at this
      exact Int.le_of_eq this
  rw [cn_of_not a.1] at a b
  exact ⟨a.1, a.2, b⟩
theorem l05Place_any (x : Nat) (w : World) : Calls Try.prog 60 #[.float .f32 x] w fun e w' => e = .returned (.bool (plB x)) ∧ w' = w := by
  cases h : geF (cn .f32 x) (cn .f32 0)
  · have hp : Hid (plB x = false) := Lib.hid (by unfold plB; rw [h]; rfl)
    unfold geF at h
    go_enter Try.func60, Try.ntmps60
    go_wp2
    go_ret
    exact ⟨ret_bool hp.out.symm, rfl⟩
  · have hp : Hid (plB x = leF (cn .f32 x) (cn .f32 1148846080)) := Lib.hid (by unfold plB; rw [h]; rfl)
    unfold geF at h
    go_enter Try.func60, Try.ntmps60
    go_wp2
    go_ret
    exact ⟨ret_bool hp.out.symm, rfl⟩

/-- A number and a yes or no. -/
def OctR (w : World) (X : Nat) (ok : Bool) (e : Ending) (w' : World) : Prop := ∃ b, e = .returned (.tuple #[.float .f32 b, .bool ok]) ∧ cn .f32 b = X ∧ Below w.heap.size w w'
def ocOk (s : Int) (x y : Nat) : Bool := (decide (0 ≤ s) && decide (s ≤ 2147483647)) && plB x && plB y
def ocX (s : Int) (x y : Nat) : Nat := if ocOk s x y then octX s x y else cn .f32 0

theorem specOct (s : Int) (x y : Nat) (w : World) : Calls Try.prog 27 #[.int .i64 s, .float .f32 x, .float .f32 y] w (OctR w (ocX s x y) (ocOk s x y)) := by
  cases hs : (decide (0 ≤ s) && decide (s ≤ 2147483647))
  · have ho : ocOk s x y = false := by unfold ocOk; rw [hs]; rfl
    unfold ocX
    rw [ho]
    clear ho
    go_enter Try.func27, Try.ntmps27
    go_wp2_with fail
    refine (l05Seed_any _ _).mono ?_
    rintro e w1 ⟨rfl, rfl⟩
    rw [hs]
    clear hs
    go_wp2_with fail
    go_ret2
    exact ⟨_, rfl, rfl, Below.refl _ _⟩
  · cases hx : plB x
    · have ho : ocOk s x y = false := by unfold ocOk; rw [hs, hx]; rfl
      unfold ocX
      rw [ho]
      clear ho
      go_enter Try.func27, Try.ntmps27
      go_wp2_with fail
      refine (l05Seed_any _ _).mono ?_
      rintro e w1 ⟨rfl, rfl⟩
      rw [hs]
      clear hs
      go_wp2_with fail
      refine (l05Place_any _ _).mono ?_
      rintro e w1 ⟨rfl, rfl⟩
      rw [hx]
      clear hx
      go_wp2_with fail
      go_ret2
      exact ⟨_, rfl, rfl, Below.refl _ _⟩
    · cases hy : plB y
      · have ho : ocOk s x y = false := by unfold ocOk; rw [hs, hx, hy]; rfl
        unfold ocX
        rw [ho]
        clear ho
        go_enter Try.func27, Try.ntmps27
        go_wp2_with fail
        refine (l05Seed_any _ _).mono ?_
        rintro e w1 ⟨rfl, rfl⟩
        rw [hs]
        clear hs
        go_wp2_with fail
        refine (l05Place_any _ _).mono ?_
        rintro e w1 ⟨rfl, rfl⟩
        rw [hx]
        clear hx
        go_wp2_with fail
        refine (l05Place_any _ _).mono ?_
        rintro e w1 ⟨rfl, rfl⟩
        rw [hy]
        clear hy
        go_wp2_with fail
        go_ret2
        exact ⟨_, rfl, rfl, Below.refl _ _⟩
      · have ho : ocOk s x y = true := by unfold ocOk; rw [hs, hx, hy]; rfl
        unfold ocX
        rw [ho]
        clear ho
        simp only [if_true]
        obtain ⟨s0, s1⟩ : 0 ≤ s ∧ s ≤ 2147483647 := by simpa using hs
        have px : Plc x := by
          unfold plB at hx
          rw [Bool.and_eq_true] at hx
          exact plc_of hx.1 hx.2
        have py : Plc y := by
          unfold plB at hy
          rw [Bool.and_eq_true] at hy
          exact plc_of hy.1 hy.2
        have HS := Lib.hid hs
        have HX := Lib.hid hx
        have HY := Lib.hid hy
        clear hs hx hy
        go_enter Try.func27, Try.ntmps27
        go_wp2_with fail
        refine (l05Seed_any _ _).mono ?_
        rintro e w1 ⟨rfl, rfl⟩
        rw [HS.out]
        go_wp2_with fail
        refine (l05Place_any _ _).mono ?_
        rintro e w1 ⟨rfl, rfl⟩
        rw [HX.out]
        go_wp2_with fail
        refine (l05Place_any _ _).mono ?_
        rintro e w1 ⟨rfl, rfl⟩
        rw [HY.out]
        go_wp2_with fail
        refine (l05Octave_any _ _ _ _ s0 s1 px py).mono ?_
        rintro e w1 ⟨b, n, rfl, hb, rfl⟩
        have HB := Lib.hid hb
        clear hb
        go_wp2
        go_ret2
        exact ⟨_, rfl, HB.out, below_drewN (Below.refl _ _) _⟩
theorem ocOk_x {s : Int} {x y : Nat} (h : plB x = false) : ocOk s x y = false := by unfold ocOk; rw [h, Bool.and_false]; rfl
theorem ocOk_y {s : Int} {x y : Nat} (h : plB y = false) : ocOk s x y = false := by unfold ocOk; rw [h, Bool.and_false]
theorem plB_0 {x : Nat} (h : geF (cn .f32 x) (cn .f32 0) = false) : plB x = false := by unfold plB; rw [h]; rfl
theorem plB_1 {x : Nat} (h : leF (cn .f32 x) (cn .f32 1148846080) = false) : plB x = false := by unfold plB; rw [h, Bool.and_false]
set_option maxHeartbeats 1000000 in
theorem implOct (s : Int) (x y : Nat) (w : World) : Calls Try.prog 28 #[.int .i64 s, .float .f32 x, .float .f32 y] w (OctR w (ocX s x y) (ocOk s x y)) := by
  have bad : ocOk s x y = false → OctR w (ocX s x y) (ocOk s x y) (.returned (.tuple #[.float .f32 0, .bool false])) w := fun h => ⟨0, by rw [h], by unfold ocX; rw [h]; rfl, Below.refl _ _⟩
  cases hs : (decide (0 ≤ s) && decide (s ≤ 2147483647))
  · have B := Lib.hid (bad (by unfold ocOk; rw [hs]; rfl))
    clear bad
    go_enter Try.func28, Try.ntmps28
    go_wp2_with fail
    refine (isSeed_any _ _).mono ?_
    rintro e w1 ⟨rfl, rfl⟩
    rw [hs]
    go_wp2
    go_ret2
    exact B.out
  · have HS := Lib.hid hs
    cases hx0 : geF (cn .f32 x) (cn .f32 0)
    · have B := Lib.hid (bad (ocOk_x (plB_0 hx0)))
      unfold geF at hx0
      clear bad hs
      go_enter Try.func28, Try.ntmps28
      go_wp2_with fail
      refine (isSeed_any _ _).mono ?_
      rintro e w1 ⟨rfl, rfl⟩
      rw [HS.out]
      go_wp2
      go_ret2
      exact B.out
    · cases hx1 : leF (cn .f32 x) (cn .f32 1148846080)
      · have B := Lib.hid (bad (ocOk_x (plB_1 hx1)))
        unfold geF at hx0
        unfold leF at hx1
        clear bad hs
        go_enter Try.func28, Try.ntmps28
        go_wp2_with fail
        refine (isSeed_any _ _).mono ?_
        rintro e w1 ⟨rfl, rfl⟩
        rw [HS.out]
        go_wp2
        go_ret2
        exact B.out
      · cases hy0 : geF (cn .f32 y) (cn .f32 0)
        · have B := Lib.hid (bad (ocOk_y (plB_0 hy0)))
          unfold geF at hx0 hy0
          unfold leF at hx1
          clear bad hs
          go_enter Try.func28, Try.ntmps28
          go_wp2_with fail
          refine (isSeed_any _ _).mono ?_
          rintro e w1 ⟨rfl, rfl⟩
          rw [HS.out]
          go_wp2
          go_ret2
          exact B.out
        · cases hy1 : leF (cn .f32 y) (cn .f32 1148846080)
          · have B := Lib.hid (bad (ocOk_y (plB_1 hy1)))
            unfold geF at hx0 hy0
            unfold leF at hx1 hy1
            clear bad hs
            go_enter Try.func28, Try.ntmps28
            go_wp2_with fail
            refine (isSeed_any _ _).mono ?_
            rintro e w1 ⟨rfl, rfl⟩
            rw [HS.out]
            go_wp2
            go_ret2
            exact B.out
          · have px := plc_of hx0 hx1
            have py := plc_of hy0 hy1
            have ho : ocOk s x y = true := by unfold ocOk plB; rw [hs, hx0, hx1, hy0, hy1]; rfl
            obtain ⟨s0, s1⟩ : 0 ≤ s ∧ s ≤ 2147483647 := by simpa using hs
            unfold ocX
            rw [ho]
            simp only [if_true]
            unfold geF at hx0 hy0
            unfold leF at hx1 hy1
            clear bad hs ho
            go_enter Try.func28, Try.ntmps28
            go_wp2_with fail
            refine (isSeed_any _ _).mono ?_
            rintro e w1 ⟨rfl, rfl⟩
            rw [HS.out]
            go_wp2_with fail
            refine (octave_any _ _ _ _ s0 s1 px py).mono ?_
            rintro e w1 ⟨b, rfl, hb, kb⟩
            have HB := Lib.hid hb
            clear hb
            go_wp2
            go_ret2
            exact ⟨_, rfl, HB.out, kb⟩

theorem octaveLaw (s : Int) (x y : Nat) (w : World) : Calls Try.prog 8 #[.int .i64 s, .float .f32 x, .float .f32 y] w fun e w' => e = .returned (.bool true) ∧ Below w.heap.size w w' := by
  go_enter Try.func8, Try.ntmps8
  go_wp2_with fail
  refine (specOct _ _ _ _).mono ?_
  rintro e w1 ⟨b, rfl, hx, k1⟩
  have HX := Lib.hid hx
  clear hx
  go_wp2_with fail
  refine (implOct _ _ _ _).mono ?_
  rintro e w2 ⟨b', rfl, hx', k2⟩
  have HX' := Lib.hid hx'
  have K2 := Below.step k1 k2
  clear hx' k1 k2
  go_wp2_with fail
  refine (sameFloat_ok _ _ (by rw [cn_wres, cn_wres, HX.out, HX'.out]) _).mono ?_
  rintro e w3 ⟨rfl, m, rfl⟩
  go_wp2
  go_ret
  exact ⟨rfl, below_drewN K2 _⟩
end Go.Proofs.Ytenepnbickpcjaa
