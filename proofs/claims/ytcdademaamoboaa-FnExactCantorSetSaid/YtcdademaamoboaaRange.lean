/- RangeOfWalk, both sides, and its law's walk. -/
import Derived.Test.YtcdademaamoboaaIsList
namespace Go.Proofs.Ytcdademaamoboaa
open Go.RowKit

def lowF (c : Nat) (l : List Nat) : Nat := l.foldl (fun a x => if ford .f32 x a == some .lt then x else a) c
def highF (c : Nat) (l : List Nat) : Nat := l.foldl (fun a x => if ford .f32 x a == some .gt then x else a) c
def cl (xs : List Nat) : List Nat := xs.map (cn .f32)
theorem cl_len (xs : List Nat) : (cl xs).length = xs.length := by simp [cl]
theorem cl_take (xs : List Nat) (k : Nat) : cl (xs.take k) = (cl xs).take k := by simp [cl, List.map_take]
theorem cl_succ {xs : List Nat} {k : Nat} (h : k < xs.length) : cl (xs.take (k + 1)) = cl (xs.take k) ++ [cn .f32 xs[k]] := by
  rw [List.take_succ_eq_append_getElem h]; unfold cl; rw [List.map_append]; rfl
theorem lowF_snoc (c : Nat) (l : List Nat) (x : Nat) : lowF c (l ++ [x]) = if ford .f32 x (lowF c l) == some .lt then x else lowF c l := by simp [lowF]
theorem highF_snoc (c : Nat) (l : List Nat) (x : Nat) : highF c (l ++ [x]) = if ford .f32 x (highF c l) == some .gt then x else highF c l := by simp [highF]
theorem ford_irr (x : Nat) : (ford .f32 x x == some .lt) = false ∧ (ford .f32 x x == some .gt) = false := by
  cases h : isN .f32 x
  · rw [ford_self h]; exact ⟨rfl, rfl⟩
  · rw [ford_nanL _ h]; exact ⟨rfl, rfl⟩
theorem lowF_one (c : Nat) : lowF c [c] = c := by simp [lowF]
theorem highF_one (c : Nat) : highF c [c] = c := by simp [highF]

/-- A number and a yes or no; below the heap's size nothing has turned. -/
def NumB (w : World) (X : Nat) (ok : Bool) (e : Ending) (w' : World) : Prop := ∃ b, e = .returned (.tuple #[.float .f32 b, .bool ok]) ∧ cn .f32 b = X ∧ Below w.heap.size w w'

/-- A number and a yes or no, whatever was drawn. -/
def NumR (w : World) (X : Nat) (ok : Bool) (e : Ending) (w' : World) : Prop := ∃ b n, e = .returned (.tuple #[.float .f32 b, .bool ok]) ∧ cn .f32 b = X ∧ w' = w.drewN n
def FloatR (w : World) (X : Nat) (e : Ending) (w' : World) : Prop := ∃ b n, e = .returned (.float .f32 b) ∧ cn .f32 b = X ∧ w' = w.drewN n
def TwoR (w : World) (X Y : Nat) (e : Ending) (w' : World) : Prop := ∃ b c n, e = .returned (.tuple #[.float .f32 b, .float .f32 c]) ∧ cn .f32 b = X ∧ cn .f32 c = Y ∧ w' = w.drewN n
theorem ret_num {a b : Bool} {x : Nat} (h : a = b) : Ending.returned (.tuple #[.float .f32 x, .bool a]) = .returned (.tuple #[.float .f32 x, .bool b]) := by rw [h]
def numX (X : Nat) : Nat := if finB X then X else cn .f32 0
theorem l02Number_any (x : Nat) (w : World) : Calls Try.prog 53 #[.float .f32 x] w (NumR w (numX (cn .f32 x)) (finB (cn .f32 x))) := by
  cases hf : finB (cn .f32 x)
  all_goals
    go_enter Try.func53, Try.ntmps53
    go_wp2_with (go_at_call 79; refine (l01Finite_any _ _).mono ?_; rintro e w' ⟨rfl, n', rfl⟩)
    go_ret2
    exact ⟨_, _, by first | rfl | rw [hf], by simp [numX, hf], rfl⟩
theorem ifNumber_any (x : Nat) (w : World) : Calls Try.prog 55 #[.float .f32 x] w (NumR w (numX (cn .f32 x)) (finB (cn .f32 x))) := by
  cases hf : finB (cn .f32 x)
  all_goals
    go_enter Try.func55, Try.ntmps55
    go_wp2_with (go_at_call 52; refine (isFinite_any _ _).mono ?_; rintro e w' ⟨rfl, n', rfl⟩)
    go_ret2
    exact ⟨_, _, by first | rfl | rw [hf], by simp [numX, hf], rfl⟩

set_option maxHeartbeats 1000000 in
theorem l06Range_any (A : Option Addr) (c : Nat) (xs : List Nat) (w : World) (hA : FRd w A xs) (hn : xs.length ≤ 256) (h0 : 0 < xs.length) :
    Calls Try.prog 56 #[.slice A xs.length c] w (FloatR w (fop .sub .f32 (highF (cn .f32 xs[0]) (cl xs)) (lowF (cn .f32 xs[0]) (cl xs)))) := by
  obtain ⟨b, o, rfl, hb, hc0⟩ := hA.at_ h0
  rw [Nat.add_zero] at hc0
  have h1 : (0 : Int) < xs.length := by omega
  go_enter Try.func56, Try.ntmps56
  go_wp2
  go_loop [3, 4, 5] (fun l h i => ∃ k bl bh : Nat, k ≤ xs.length ∧ i = .int .i64 k ∧ l = .float .f32 bl ∧ h = .float .f32 bh ∧ Hid (cn .f32 bl = lowF (cn .f32 xs[0]) (cl (xs.take k))) ∧ Hid (cn .f32 bh = highF (cn .f32 xs[0]) (cl (xs.take k)))) (fun _ _ i => xs.length - (intOf i).toNat)
  case atStart => exact ⟨1, _, _, by omega, rfl, rfl, rfl, Lib.hid (by rw [cl_succ h0]; exact (lowF_one _).symm), Lib.hid (by rw [cl_succ h0]; exact (highF_one _).symm)⟩
  case round =>
    obtain ⟨k, bl, bh, hk, rfl, rfl, rfl, HL, HH⟩ := hrel
    by_cases hlt : k < xs.length
    · obtain ⟨b', o', hA', _, hc⟩ := hA.at_ hlt
      injection hA' with hA'
      injection hA' with e1 e2
      subst e1; subst e2
      have L1 := lowF_snoc (cn .f32 xs[0]) (cl (xs.take k)) (cn .f32 xs[k])
      have H1 := highF_snoc (cn .f32 xs[0]) (cl (xs.take k)) (cn .f32 xs[k])
      rw [← cl_succ hlt] at L1 H1
      rw [← HL.out] at L1
      rw [← HH.out] at H1
      have L2 := Lib.hid L1
      have H2 := Lib.hid H1
      clear L1 H1
      cases hl : (ford .f32 (cn .f32 xs[k]) (cn .f32 bl) == some .lt)
      all_goals
        cases hh : (ford .f32 (cn .f32 xs[k]) (cn .f32 bh) == some .gt)
        all_goals
          go_wp2
          go_round
          case rel => exact ⟨k + 1, _, _, by omega, by go_num, rfl, rfl, Lib.hid (by rw [L2.out, hl]; rfl), Lib.hid (by rw [H2.out, hh]; rfl)⟩
          case measure => simp [intOf]; omega
    · go_wp2
      go_ret
      obtain rfl : k = xs.length := by omega
      have e1 := HL.out
      have e2 := HH.out
      rw [List.take_length] at e1 e2
      exact ⟨_, _, rfl, by rw [cn_fres, e1, e2], rfl⟩

set_option maxHeartbeats 1000000 in
theorem span_any (A : Option Addr) (c : Nat) (xs : List Nat) (w : World) (hA : FRd w A xs) (hn : xs.length ≤ 1000) (h0 : 0 < xs.length) :
    Calls Try.prog 57 #[.slice A xs.length c] w (TwoR w (lowF (cn .f32 xs[0]) (cl xs)) (highF (cn .f32 xs[0]) (cl xs))) := by
  obtain ⟨b, o, rfl, hb, hc0⟩ := hA.at_ h0
  rw [Nat.add_zero] at hc0
  have h1 : (0 : Int) < xs.length := by omega
  go_enter Try.func57, Try.ntmps57
  go_wp2_with fail
  go_quiet (fail)
  go_wp2
  go_loop [4, 5, 16] (fun l h i => ∃ k bl bh : Nat, k ≤ xs.length ∧ i = .int .i64 k ∧ l = .float .f32 bl ∧ h = .float .f32 bh ∧ Hid (cn .f32 bl = lowF (cn .f32 xs[0]) (cl (xs.take k))) ∧ Hid (cn .f32 bh = highF (cn .f32 xs[0]) (cl (xs.take k)))) (fun _ _ i => xs.length - (intOf i).toNat)
  case atStart => exact ⟨0, _, _, by omega, rfl, rfl, rfl, Lib.hid rfl, Lib.hid rfl⟩
  case round =>
    obtain ⟨k, bl, bh, hk, rfl, rfl, rfl, HL, HH⟩ := hrel
    by_cases hlt : k < xs.length
    · obtain ⟨b', o', hA', _, hc⟩ := hA.at_ hlt
      injection hA' with hA'
      injection hA' with e1 e2
      subst e1; subst e2
      have L1 := lowF_snoc (cn .f32 xs[0]) (cl (xs.take k)) (cn .f32 xs[k])
      have H1 := highF_snoc (cn .f32 xs[0]) (cl (xs.take k)) (cn .f32 xs[k])
      rw [← cl_succ hlt] at L1 H1
      rw [← HL.out] at L1
      rw [← HH.out] at H1
      have L2 := Lib.hid L1
      have H2 := Lib.hid H1
      clear L1 H1
      cases hl : (ford .f32 (cn .f32 xs[k]) (cn .f32 bl) == some .lt)
      all_goals
        cases hh : (ford .f32 (cn .f32 xs[k]) (cn .f32 bh) == some .gt)
        all_goals
          go_wp2
          go_round
          case rel => exact ⟨k + 1, _, _, by omega, by go_num, rfl, rfl, Lib.hid (by rw [L2.out, hl]; rfl), Lib.hid (by rw [H2.out, hh]; rfl)⟩
          case measure => simp [intOf]; omega
    · go_wp2
      go_ret2
      obtain rfl : k = xs.length := by omega
      have e1 := HL.out
      have e2 := HH.out
      rw [List.take_length] at e1 e2
      exact ⟨_, _, _, rfl, e1, e2, rfl⟩

theorem range_both (xs : List Nat) (hn : xs.length ≤ maxLen) :
    ∃ X ok, ∀ (A : Option Addr) (c : Nat) w, FRd w A xs → Calls Try.prog 31 #[.slice A xs.length c] w (NumR w X ok) ∧ Calls Try.prog 32 #[.slice A xs.length c] w (NumR w X ok) := by
  by_cases h : lstB xs = true ∧ 0 < xs.length
  · obtain ⟨hl, h0⟩ := h
    have h256 : xs.length ≤ 256 := by
      unfold lstB at hl
      simp at hl
      exact hl.1
    refine ⟨numX (fop .sub .f32 (highF (cn .f32 xs[0]) (cl xs)) (lowF (cn .f32 xs[0]) (cl xs))), finB (fop .sub .f32 (highF (cn .f32 xs[0]) (cl xs)) (lowF (cn .f32 xs[0]) (cl xs))), fun A c w hA => ⟨?_, ?_⟩⟩
    · have h1 : (1 : Int) ≤ xs.length := by omega
      have hd : decide ((xs.length : Int) < 1) = false := by simp; omega
      go_enter Try.func31, Try.ntmps31
      go_wp2_with fail
      refine (l06List_any _ _ _ _ hA hn).mono ?_
      rintro e w1 ⟨rfl, n1, rfl⟩
      rw [hl]
      go_wp2_with fail
      refine (l06Range_any _ _ _ (w.drewN n1) hA h256 h0).mono ?_
      rintro e w2 ⟨b, n2, rfl, hx, rfl⟩
      have HX := Lib.hid hx
      clear hx
      go_wp2_with fail
      refine (l02Number_any _ _).mono ?_
      rintro e w3 ⟨b3, n3, rfl, hx3, rfl⟩
      have HX3 := Lib.hid hx3
      clear hx3
      go_wp2
      go_ret2
      exact ⟨_, _, ret_num (by rw [HX.out]), by rw [HX3.out, HX.out], rfl⟩
    · have h1 : (1 : Int) ≤ xs.length := by omega
      have hd : ((xs.length : Int) == 0) = false := beq_eq_false_iff_ne.2 (by omega)
      go_enter Try.func32, Try.ntmps32
      go_wp2_with fail
      refine (isList_any _ _ _ _ hA hn).mono ?_
      rintro e w1 ⟨rfl, n1, rfl⟩
      rw [hl]
      go_wp2_with fail
      refine (span_any _ _ _ (w.drewN n1) hA (by omega) h0).mono ?_
      rintro e w2 ⟨b, b', n2, rfl, hx, hy, rfl⟩
      have HX := Lib.hid hx
      have HY := Lib.hid hy
      clear hx hy
      go_wp2_with fail
      refine (ifNumber_any _ _).mono ?_
      rintro e w3 ⟨b3, n3, rfl, hx3, rfl⟩
      have HX3 := Lib.hid hx3
      clear hx3
      go_wp2
      go_ret2
      exact ⟨_, _, ret_num (by rw [HX.out, HY.out]), by rw [HX3.out, cn_fres, HX.out, HY.out], rfl⟩
  · refine ⟨cn .f32 0, false, fun A c w hA => ⟨?_, ?_⟩⟩
    · cases hl : lstB xs
      · go_enter Try.func31, Try.ntmps31
        go_wp2_with fail
        refine (l06List_any _ _ _ _ hA hn).mono ?_
        rintro e w1 ⟨rfl, n1, rfl⟩
        rw [hl]
        go_wp2_with fail
        go_ret2
        exact ⟨_, _, rfl, rfl, rfl⟩
      · have hd : decide ((xs.length : Int) < 1) = true := by simp [hl] at h; simp [h]
        go_enter Try.func31, Try.ntmps31
        go_wp2_with fail
        refine (l06List_any _ _ _ _ hA hn).mono ?_
        rintro e w1 ⟨rfl, n1, rfl⟩
        rw [hl]
        go_wp2_with fail
        go_ret2
        exact ⟨_, _, rfl, rfl, rfl⟩
    · cases hl : lstB xs
      · go_enter Try.func32, Try.ntmps32
        go_wp2_with fail
        refine (isList_any _ _ _ _ hA hn).mono ?_
        rintro e w1 ⟨rfl, n1, rfl⟩
        rw [hl]
        go_wp2_with fail
        go_ret2
        exact ⟨_, _, rfl, rfl, rfl⟩
      · have hd : ((xs.length : Int) == 0) = true := by simp [hl] at h; simp [h]
        go_enter Try.func32, Try.ntmps32
        go_wp2_with fail
        refine (isList_any _ _ _ _ hA hn).mono ?_
        rintro e w1 ⟨rfl, n1, rfl⟩
        rw [hl]
        go_wp2_with fail
        go_ret2
        exact ⟨_, _, rfl, rfl, rfl⟩

theorem NumR.b {w : World} {X : Nat} {ok : Bool} {e : Ending} {w' : World} (h : NumR w X ok e w') : NumB w X ok e w' := by
  obtain ⟨b, n, he, hx, rfl⟩ := h
  exact ⟨b, he, hx, below_drewN (Below.refl _ _) _⟩
theorem range_both' (xs : List Nat) (hn : xs.length ≤ maxLen) :
    ∃ X ok, ∀ (A : Option Addr) (c : Nat) w, FRd w A xs → Calls Try.prog 31 #[.slice A xs.length c] w (NumB w X ok) ∧ Calls Try.prog 32 #[.slice A xs.length c] w (NumB w X ok) := by
  obtain ⟨X, ok, h⟩ := range_both xs hn
  exact ⟨X, ok, fun A c w hA => ⟨(h A c w hA).1.mono fun _ _ h => h.b, (h A c w hA).2.mono fun _ _ h => h.b⟩⟩

theorem rangeLaw (A : Option Addr) (c : Nat) (xs : List Nat) (w : World) (hA : FRd w A xs) (hn : xs.length ≤ maxLen) :
    Calls Try.prog 9 #[.slice A xs.length c] w fun e w' => e = .returned (.bool true) ∧ Below w.heap.size w w' := by
  obtain ⟨X, ok, hb⟩ := range_both' xs hn
  have HB := Lib.hid hb
  clear hb
  by_cases hl : xs.length ≤ 1048576
  · have hd : decide ((1048576 : Int) < xs.length) = false := by simp; omega
    go_enter Try.func9, Try.ntmps9
    go_wp2_with fail
    refine (toF32_any _ _ _ _ hA (by omega)).mono ?_
    rintro e w1 ⟨B1, c1, rfl, o1, k1⟩
    go_wp2_with fail
    refine (HB.out _ _ _ o1.1).1.mono ?_
    rintro e w2 ⟨b2, rfl, hx, k2⟩
    have HX := Lib.hid hx
    clear hx
    have hA1 : FRd w2 A xs := Rd.below (Rd.below hA k1) k2
    have K1 := Below.step k1 k2
    clear k1 o1 k2
    go_wp2_with fail
    refine (toF32_any _ _ _ w2 hA1 (by omega)).mono ?_
    rintro e w3 ⟨B3, c3, rfl, o3, k3⟩
    have hA3 := Rd.below hA1 k3
    have K3 := Below.step K1 k3
    clear k3 K1 hA1
    go_wp2_with fail
    refine (HB.out _ _ _ o3.1).2.mono ?_
    rintro e w4 ⟨b4, rfl, hx4, k4⟩
    have HX4 := Lib.hid hx4
    clear hx4
    have hA4 := Rd.below hA3 k4
    have o4 := o3.below k4
    have K4 := Below.step K3 k4
    clear k4 K3 hA3 o3 HB
    go_wp2_with fail
    refine (sameFloat_ok _ _ (by rw [cn_wres, cn_wres, HX.out, HX4.out]) _).mono ?_
    rintro e w5 ⟨rfl, n5, rfl⟩
    go_wp2_with fail
    refine (toF32_any _ _ _ _ (Rd.drewN hA4 _) (by omega)).mono ?_
    rintro e w6 ⟨B6, c6, rfl, o6, k6⟩
    have h6 : FRd w6 B3 xs := Rd.below (Rd.drewN o4.1 _) k6
    have K6 := Below.step (below_drewN K4 _) k6
    clear k6 K4 hA4 o4
    go_wp2_with fail
    refine (eqF32_ok _ _ _ _ _ _ _ h6 o6.1 hn rfl).mono ?_
    rintro e w7 ⟨rfl, n7, rfl⟩
    go_wp2
    go_ret
    exact ⟨rfl, below_drewN K6 _⟩
  · have hd : decide ((1048576 : Int) < xs.length) = true := by simp; omega
    go_enter Try.func9, Try.ntmps9
    go_wp2_with fail
    go_ret
    exact ⟨rfl, Below.refl _ _⟩
end Go.Proofs.Ytcdademaamoboaa
