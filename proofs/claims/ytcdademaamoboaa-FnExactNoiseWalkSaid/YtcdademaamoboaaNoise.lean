/- NoiseWalk, both sides. -/
import Derived.Test.YtcdademaamoboaaStep
import Derived.Test.YtcdademaamoboaaDraw
namespace Go.Proofs.Ytcdademaamoboaa
open Go.RowKit

def keepB (K : Nat) : Bool := (ford .f32 K (cn .f32 3212836864) == some .gt || ford .f32 K (cn .f32 3212836864) == some .eq) && (ford .f32 K (cn .f32 1065353216) == some .lt || ford .f32 K (cn .f32 1065353216) == some .eq)
def nzS : Nat → Int → Int
  | 0, s => s
  | k + 1, s => nextI (nzS k s)
theorem nzS_bd (k : Nat) (s : Int) (h : 0 ≤ s ∧ s ≤ 2147483647) : 0 ≤ nzS k s ∧ nzS k s ≤ 2147483647 := by
  cases k with
  | zero => exact h
  | succ k => exact nextI_bd _
def nzV (K : Nat) (s : Int) : Nat → Nat
  | 0 => cn .f32 0
  | k + 1 => fop .add .f32 (fop .mul .f32 K (nzV K s k)) (drawnF (nzS (k + 1) s))
def nzW (K : Nat) (s : Int) : Nat → Nat
  | 0 => cn .f32 0
  | k + 1 => fop .add .f32 (nzW K s k) (nzV K s (k + 1))
def nzL (K : Nat) (s : Int) (n : Nat) : List Nat := (List.range n).map fun k => nzW K s (k + 1)
theorem nzL_succ (K : Nat) (s : Int) (n : Nat) : nzL K s (n + 1) = nzL K s n ++ [nzW K s (n + 1)] := by simp [nzL, List.range_succ]
theorem nzL_len (K : Nat) (s : Int) (n : Nat) : (nzL K s n).length = n := by simp [nzL]

/-- A list of numbers in new memory, an integer, and a yes or no. -/
def ListIR (w : World) (l : List Nat) (s : Int) (ok : Bool) (e : Ending) (w' : World) : Prop :=
  ∃ A c xs, e = .returned (.tuple #[.slice A xs.length c, .int .i64 s, .bool ok]) ∧ cl xs = l ∧ OwnS w.heap.size w' A (xs.map fv) ∧ Below w.heap.size w w'

set_option maxHeartbeats 1000000 in
theorem specNoise_yes (n : Nat) (x : Nat) (s : Int) (w : World) (hn : n ≤ 256) (hk : keepB (cn .f32 x) = true) (s0 : 0 ≤ s) (s1 : s ≤ 2147483647) :
    Calls Try.prog 25 #[.int .i64 n, .float .f32 x, .int .i64 s] w (ListIR w (nzL (cn .f32 x) s n) (nzS n s) true) := by
  obtain ⟨i0, hi, hz0, hz1, hz2⟩ := info_parts info.f32
  have hd1 : (decide (0 ≤ (n : Int)) && decide ((n : Int) ≤ 256)) = true := by simp; omega
  have hd2 : (decide (0 ≤ s) && decide (s ≤ 2147483647)) = true := by simp; omega
  have HS1 := Lib.hid hd1
  have HS2 := Lib.hid hd2
  have HK := Lib.hid hk
  unfold keepB at hk
  rw [Bool.and_eq_true] at hk
  obtain ⟨q1, q2⟩ := hk
  clear hd1 hd2
  go_enter Try.func25, Try.ntmps25
  go_wp2_with fail
  refine (in_any _ _ _ _).mono ?_
  rintro e w1 ⟨rfl, rfl⟩
  rw [HS1.out]
  go_wp2_with fail
  refine (l04Seed_any _ _).mono ?_
  rintro e w1 ⟨rfl, rfl⟩
  rw [HS2.out]
  go_wp2_with fail
  clear q1 q2
  have hS := And.intro s0 s1
  go_loopw [2, 9, 10, 11, 12] (fun sd v vw vv i wr => ∃ (k bw bv : Nat) (xs : List Nat), k ≤ n ∧ i = .int .i64 k ∧ sd = .int .i64 (nzS k s) ∧ vw = .float .f32 bw ∧ vv = .float .f32 bv ∧ wr.ownsRow w.heap.size 22 1 v k (xs.map fv) ∧ Below w.heap.size w wr ∧
      Hid (cl xs = nzL (cn .f32 x) s k) ∧ Hid (cn .f32 bw = nzW (cn .f32 x) s k) ∧ Hid (cn .f32 bv = nzV (cn .f32 x) s k)) (fun _ _ _ _ i _ => n - (intOf i).toNat)
  case atStart => exact ⟨0, _, _, [], Nat.zero_le _, rfl, rfl, rfl, rfl, own_made0 w w.heap.size 22 (Nat.le_refl _), below_alloc _ _, Lib.hid rfl, Lib.hid rfl, Lib.hid rfl⟩
  case round =>
    obtain ⟨k, bw, bv, xs, hk, rfl, rfl, rfl, rfl, hown, hbel, HL, HW, HV⟩ := hrel
    by_cases hlt : k < n
    · obtain ⟨b0, b1⟩ := nzS_bd k s hS
      obtain ⟨d0, d1⟩ := nzS_bd (k + 1) s hS
      have hn1 : (1103515245 * nzS k s + 12345) % 2147483648 = nzS (k + 1) s := rfl
      go_wp2_with (at_builtin; refine wpList_push rfl _ _ 28 rfl w.heap.size 22 i0 (.float .f32 0) 4 Try.underlying28 hi hz0 hz1 hz2 rfl _ k (xs.map fv) rfl hown _ rfl rfl (by unfold maxLen; omega) (by omega) hbel.size ?_)
      intro v' w' hown' hb'
      have hb2 := (below_drewN hbel _).trans hb'
      clear hb' hown hbel hn1
      go_wp2
      go_roundw
      case rel => exact ⟨k + 1, _, _, xs ++ [_], by omega, by go_num, rfl, rfl, rfl, by rw [List.map_append]; exact hown', hb2, Lib.hid (by rw [nzL_succ, ← HL.out, cl_snoc]; congr 2; simp only [cn_fres, HW.out, HV.out]; rfl), Lib.hid (by simp only [cn_fres, HW.out, HV.out]; rfl), Lib.hid (by simp only [cn_fres, HV.out]; rfl)⟩
      case measure => simp [intOf]; omega
    · obtain rfl : k = n := by omega
      obtain ⟨B, cB, rfl⟩ := own_slice hown
      have hxs : xs.length = k := by
        have := congrArg List.length HL.out
        rw [cl_len, nzL_len] at this
        exact this
      subst hxs
      have hO := OwnS.of_own hown
      clear hown
      go_wp2
      go_ret3
      exact ⟨B, _, xs, rfl, HL.out, hO, hbel⟩
set_option maxHeartbeats 1000000 in
theorem implNoise_yes (n : Nat) (x : Nat) (s : Int) (w : World) (hn : n ≤ 256) (hk : keepB (cn .f32 x) = true) (s0 : 0 ≤ s) (s1 : s ≤ 2147483647) :
    Calls Try.prog 26 #[.int .i64 n, .float .f32 x, .int .i64 s] w (ListIR w (nzL (cn .f32 x) s n) (nzS n s) true) := by
  obtain ⟨i0, hi, hz0, hz1, hz2⟩ := info_parts info.f32
  have hd1 : (decide (0 ≤ (n : Int)) && decide ((n : Int) ≤ 256)) = true := by simp; omega
  have hd2 : (decide (0 ≤ s) && decide (s ≤ 2147483647)) = true := by simp; omega
  have HS1 := Lib.hid hd1
  have HS2 := Lib.hid hd2
  have HK := Lib.hid hk
  unfold keepB at hk
  rw [Bool.and_eq_true] at hk
  obtain ⟨q1, q2⟩ := hk
  clear hd1 hd2
  go_enter Try.func26, Try.ntmps26
  go_wp2_with fail
  refine (within_any _ _ _ _).mono ?_
  rintro e w1 ⟨rfl, rfl⟩
  rw [HS1.out]
  go_wp2_with fail
  refine (isSeed_any _ _).mono ?_
  rintro e w1 ⟨rfl, rfl⟩
  rw [HS2.out]
  go_wp2_with fail
  clear q1 q2
  have hS := And.intro s0 s1
  go_loopw [2, 9, 10, 11, 33] (fun sd v vw vv i wr => ∃ (k bw bv : Nat) (xs : List Nat), k ≤ n ∧ i = .int .i64 k ∧ sd = .int .i64 (nzS k s) ∧ vw = .float .f32 bw ∧ vv = .float .f32 bv ∧ wr.ownsRow w.heap.size 22 1 v k (xs.map fv) ∧ Below w.heap.size w wr ∧
      Hid (cl xs = nzL (cn .f32 x) s k) ∧ Hid (cn .f32 bw = nzW (cn .f32 x) s k) ∧ Hid (cn .f32 bv = nzV (cn .f32 x) s k)) (fun _ _ _ _ i _ => n - (intOf i).toNat)
  case atStart => exact ⟨0, _, _, [], Nat.zero_le _, rfl, rfl, rfl, rfl, own_made0 w w.heap.size 22 (Nat.le_refl _), below_alloc _ _, Lib.hid rfl, Lib.hid rfl, Lib.hid rfl⟩
  case round =>
    obtain ⟨k, bw, bv, xs, hk, rfl, rfl, rfl, rfl, hown, hbel, HL, HW, HV⟩ := hrel
    by_cases hlt : k < n
    · obtain ⟨b0, b1⟩ := nzS_bd k s hS
      obtain ⟨d0, d1⟩ := nzS_bd (k + 1) s hS
      go_wp2_with fail
      refine (draw_any _ _ b0 b1).mono ?_
      rintro e w1 ⟨bd, nd, rfl, hd, rfl⟩
      have HD := Lib.hid hd
      clear hd
      have hn1 : nextI (nzS k s) = nzS (k + 1) s := rfl
      go_wp2_with (at_builtin; refine wpList_push rfl _ _ 28 rfl w.heap.size 22 i0 (.float .f32 0) 4 Try.underlying28 hi hz0 hz1 hz2 rfl _ k (xs.map fv) rfl hown _ rfl rfl (by unfold maxLen; omega) (by omega) hbel.size ?_)
      intro v' w' hown' hb'
      have hb2 := (below_drewN hbel _).trans hb'
      clear hb' hown hbel hn1
      go_wp2
      go_roundw
      case rel => exact ⟨k + 1, _, _, xs ++ [_], by omega, by go_num, rfl, rfl, rfl, by rw [List.map_append]; exact hown', hb2, Lib.hid (by rw [nzL_succ, ← HL.out, cl_snoc]; congr 2; simp only [cn_fres, HW.out, HV.out, HD.out]; rfl), Lib.hid (by simp only [cn_fres, HW.out, HV.out, HD.out]; rfl), Lib.hid (by simp only [cn_fres, HV.out, HD.out]; rfl)⟩
      case measure => simp [intOf]; omega
    · obtain rfl : k = n := by omega
      obtain ⟨B, cB, rfl⟩ := own_slice hown
      have hxs : xs.length = k := by
        have := congrArg List.length HL.out
        rw [cl_len, nzL_len] at this
        exact this
      subst hxs
      have hO := OwnS.of_own hown
      clear hown
      go_wp2
      go_ret3
      exact ⟨B, _, xs, rfl, HL.out, hO, hbel⟩

def nzOk (n : Int) (K : Nat) (s : Int) : Bool := (decide (0 ≤ n) && decide (n ≤ 256)) && keepB K && (decide (0 ≤ s) && decide (s ≤ 2147483647))

theorem specNoise_no (n : Int) (x : Nat) (s : Int) (w : World) (h : nzOk n (cn .f32 x) s = false) : Calls Try.prog 25 #[.int .i64 n, .float .f32 x, .int .i64 s] w (ListIR w [] 0 false) := by
  cases h1 : (decide (0 ≤ n) && decide (n ≤ 256))
  · clear h
    go_enter Try.func25, Try.ntmps25
    go_wp2_with fail
    refine (in_any _ _ _ _).mono ?_
    rintro e w1 ⟨rfl, rfl⟩
    rw [h1]
    clear h1
    go_wp2_with fail
    go_ret3
    exact ⟨none, 0, [], rfl, rfl, OwnS.nil _, Below.refl _ _⟩
  · cases h2 : keepB (cn .f32 x)
    · clear h
      have hk := h2
      unfold keepB at hk
      have H1 := Lib.hid h1
      clear h1 h2
      rw [Bool.and_eq_false_iff] at hk
      rcases hk with hk | hk
      · go_enter Try.func25, Try.ntmps25
        go_wp2_with fail
        refine (in_any _ _ _ _).mono ?_
        rintro e w1 ⟨rfl, rfl⟩
        rw [H1.out]
        go_wp2_with fail
        go_ret3
        exact ⟨none, 0, [], rfl, rfl, OwnS.nil _, Below.refl _ _⟩
      · go_enter Try.func25, Try.ntmps25
        go_wp2_with fail
        refine (in_any _ _ _ _).mono ?_
        rintro e w1 ⟨rfl, rfl⟩
        rw [H1.out]
        go_wp2_with fail
        all_goals go_ret3
        all_goals exact ⟨none, 0, [], rfl, rfl, OwnS.nil _, Below.refl _ _⟩
    · have h3 : (decide (0 ≤ s) && decide (s ≤ 2147483647)) = false := by
        unfold nzOk at h
        rw [h1, h2] at h
        simpa using h
      have hk := h2
      unfold keepB at hk
      rw [Bool.and_eq_true] at hk
      obtain ⟨q1, q2⟩ := hk
      have H1 := Lib.hid h1
      have H3 := Lib.hid h3
      clear h h1 h2 h3
      go_enter Try.func25, Try.ntmps25
      go_wp2_with fail
      refine (in_any _ _ _ _).mono ?_
      rintro e w1 ⟨rfl, rfl⟩
      rw [H1.out]
      go_wp2_with fail
      refine (l04Seed_any _ _).mono ?_
      rintro e w1 ⟨rfl, rfl⟩
      rw [H3.out]
      go_wp2_with fail
      go_ret3
      exact ⟨none, 0, [], rfl, rfl, OwnS.nil _, Below.refl _ _⟩

theorem implNoise_no (n : Int) (x : Nat) (s : Int) (w : World) (h : nzOk n (cn .f32 x) s = false) : Calls Try.prog 26 #[.int .i64 n, .float .f32 x, .int .i64 s] w (ListIR w [] 0 false) := by
  cases h1 : (decide (0 ≤ n) && decide (n ≤ 256))
  · clear h
    go_enter Try.func26, Try.ntmps26
    go_wp2_with fail
    refine (within_any _ _ _ _).mono ?_
    rintro e w1 ⟨rfl, rfl⟩
    rw [h1]
    clear h1
    go_wp2_with fail
    go_ret3
    exact ⟨none, 0, [], rfl, rfl, OwnS.nil _, Below.refl _ _⟩
  · cases h2 : keepB (cn .f32 x)
    · clear h
      have hk := h2
      unfold keepB at hk
      have H1 := Lib.hid h1
      clear h1 h2
      rw [Bool.and_eq_false_iff] at hk
      rcases hk with hk | hk
      · go_enter Try.func26, Try.ntmps26
        go_wp2_with fail
        refine (within_any _ _ _ _).mono ?_
        rintro e w1 ⟨rfl, rfl⟩
        rw [H1.out]
        go_wp2_with fail
        go_ret3
        exact ⟨none, 0, [], rfl, rfl, OwnS.nil _, Below.refl _ _⟩
      · go_enter Try.func26, Try.ntmps26
        go_wp2_with fail
        refine (within_any _ _ _ _).mono ?_
        rintro e w1 ⟨rfl, rfl⟩
        rw [H1.out]
        go_wp2_with fail
        all_goals go_ret3
        all_goals exact ⟨none, 0, [], rfl, rfl, OwnS.nil _, Below.refl _ _⟩
    · have h3 : (decide (0 ≤ s) && decide (s ≤ 2147483647)) = false := by
        unfold nzOk at h
        rw [h1, h2] at h
        simpa using h
      have hk := h2
      unfold keepB at hk
      rw [Bool.and_eq_true] at hk
      obtain ⟨q1, q2⟩ := hk
      have H1 := Lib.hid h1
      have H3 := Lib.hid h3
      clear h h1 h2 h3
      go_enter Try.func26, Try.ntmps26
      go_wp2_with fail
      refine (within_any _ _ _ _).mono ?_
      rintro e w1 ⟨rfl, rfl⟩
      rw [H1.out]
      go_wp2_with fail
      refine (isSeed_any _ _).mono ?_
      rintro e w1 ⟨rfl, rfl⟩
      rw [H3.out]
      go_wp2_with fail
      go_ret3
      exact ⟨none, 0, [], rfl, rfl, OwnS.nil _, Below.refl _ _⟩

theorem noise_both (n : Int) (x : Nat) (s : Int) : ∃ l s' ok, l.length ≤ 256 ∧ ∀ w, Calls Try.prog 25 #[.int .i64 n, .float .f32 x, .int .i64 s] w (ListIR w l s' ok) ∧ Calls Try.prog 26 #[.int .i64 n, .float .f32 x, .int .i64 s] w (ListIR w l s' ok) := by
  cases h : nzOk n (cn .f32 x) s
  · exact ⟨_, _, _, by simp, fun w => ⟨specNoise_no n x s w h, implNoise_no n x s w h⟩⟩
  · simp [nzOk] at h
    obtain ⟨⟨⟨n0, n1⟩, hk⟩, s0, s1⟩ := h
    obtain ⟨m, rfl⟩ := Int.eq_ofNat_of_zero_le n0
    exact ⟨_, _, _, by rw [nzL_len]; omega, fun w => ⟨specNoise_yes m x s w (by omega) hk s0 s1, implNoise_yes m x s w (by omega) hk s0 s1⟩⟩
end Go.Proofs.Ytcdademaamoboaa
