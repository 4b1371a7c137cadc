/- StepGrowth, both sides, and its law's walk. -/
import Derived.Test.YtcdademaamoboaaRange
import Derived.Test.YtcdademaamoboaaPush
namespace Go.Proofs.Ytcdademaamoboaa
open Go.RowKit

/-- The sum from left to right. -/
def sumF (l : List Nat) : Nat := l.foldl (fun a x => fop .add .f32 a x) (cn .f32 0)
theorem sumF_snoc (l : List Nat) (x : Nat) : sumF (l ++ [x]) = fop .add .f32 (sumF l) x := by simp [sumF]

theorem l06Mean_any (A : Option Addr) (c : Nat) (xs : List Nat) (w : World) (hA : FRd w A xs) (hn : xs.length ≤ maxLen) :
    Calls Try.prog 54 #[.slice A xs.length c] w (FloatR w (fop .quo .f32 (sumF (cl xs)) (cn .f32 (floatOfInt .f32 xs.length)))) := by
  unfold maxLen at hn
  go_enter Try.func54, Try.ntmps54
  go_wp2
  go_loopw [3, 4] (fun s i wr => ∃ k b m : Nat, k ≤ xs.length ∧ i = .int .i64 k ∧ s = .float .f32 b ∧ wr = w.drewN m ∧ Hid (cn .f32 b = sumF (cl (xs.take k)))) (fun _ i _ => xs.length - (intOf i).toNat)
  case atStart => exact ⟨0, _, 0, Nat.zero_le _, rfl, rfl, rfl, Lib.hid rfl⟩
  case round =>
    obtain ⟨k, b, m, hk, rfl, rfl, rfl, HS⟩ := hrel
    by_cases hlt : k < xs.length
    · obtain ⟨b', o', rfl, _, hc⟩ := hA.at_ hlt
      go_wp2
      go_roundw
      case rel => exact ⟨k + 1, _, _, by omega, by go_num, rfl, rfl, Lib.hid (by rw [cl_succ hlt, sumF_snoc, cn_fres, HS.out])⟩
      case measure => simp [intOf]; omega
    · go_wp2
      go_ret
      obtain rfl : k = xs.length := by omega
      have e1 := HS.out
      rw [List.take_length] at e1
      exact ⟨_, _, rfl, by rw [cn_fres, e1], rfl⟩

theorem cl_snoc (l : List Nat) (x : Nat) : cl (l ++ [x]) = cl l ++ [cn .f32 x] := by simp [cl]
/-- The squares of the steps. -/
def stepsq (l : List Nat) (lag k : Nat) : Nat := fop .mul .f32 (fop .sub .f32 (l.getD (lag + k) 0) (l.getD k 0)) (fop .sub .f32 (l.getD (lag + k) 0) (l.getD k 0))
def squares (l : List Nat) (lag n : Nat) : List Nat := (List.range n).map fun k => stepsq l lag k
theorem squares_succ (l : List Nat) (lag n : Nat) : squares l lag (n + 1) = squares l lag n ++ [stepsq l lag n] := by simp [squares, List.range_succ]
theorem squares_len (l : List Nat) (lag n : Nat) : (squares l lag n).length = n := by simp [squares]
theorem cl_get {xs : List Nat} {k : Nat} (h : k < xs.length) : (cl xs).getD k 0 = cn .f32 xs[k] := by simp [cl, h]

def stepX (l : List Nat) (lag : Nat) : Nat := fop .quo .f32 (sumF (squares l lag (l.length - lag))) (cn .f32 (floatOfInt .f32 ((l.length - lag : Nat) : Int)))

set_option maxHeartbeats 1000000 in
theorem implStep (A : Option Addr) (c : Nat) (xs : List Nat) (lag : Nat) (w : World) (hA : FRd w A xs) (hl : lstB xs = true) (h0 : 1 ≤ lag) (h1 : lag < xs.length) (h256 : xs.length ≤ 256) :
    Calls Try.prog 30 #[.slice A xs.length c, .int .i64 lag] w (NumR w (numX (stepX (cl xs) lag)) (finB (stepX (cl xs) lag))) := by
  have hn : xs.length ≤ maxLen := by unfold maxLen; omega
  go_enter Try.func30, Try.ntmps30
  go_wp2_with fail
  refine (isList_any _ _ _ _ hA hn).mono ?_
  rintro e w1 ⟨rfl, n1, rfl⟩
  rw [hl]
  go_wp2_with fail
  refine (within_any _ _ _ _).mono ?_
  rintro e w2 ⟨rfl, rfl⟩
  have hd1 : decide ((1 : Int) ≤ lag) = true := by simp; omega
  have hd2 : decide ((lag : Int) ≤ xs.length - 1) = true := by simp; omega
  rw [hd1, hd2]
  clear hd1 hd2
  go_wp2_with fail
  go_loopw [6, 7, 8] (fun s i _ wr => ∃ k b m : Nat, lag + k ≤ xs.length ∧ i = .int .i64 (lag + k : Nat) ∧ s = .float .f32 b ∧ wr = w.drewN m ∧ Hid (cn .f32 b = sumF (squares (cl xs) lag k))) (fun _ i _ _ => xs.length - (intOf i).toNat)
  case atStart => exact ⟨0, _, _, by omega, by simp, rfl, rfl, Lib.hid rfl⟩
  case round =>
    obtain ⟨k, b, m, hk, rfl, rfl, rfl, HS⟩ := hrel
    by_cases hlt : lag + k < xs.length
    · obtain ⟨b', o', rfl, _, hc⟩ := hA.at_ hlt
      obtain ⟨b2, o2, hA2, _, hc2⟩ := hA.at_ (k := k) (by omega)
      injection hA2 with hA2
      injection hA2 with e1 e2
      subst e1; subst e2
      go_wp2_with fail
      go_region
      go_wp2
      go_roundw
      case rel => exact ⟨k + 1, _, _, by omega, by go_num, rfl, rfl, Lib.hid (by rw [squares_succ, sumF_snoc, cn_fres, HS.out]; unfold stepsq; rw [cl_get hlt, cl_get (by omega)]; simp only [cn_fres])⟩
      case measure => simp [intOf]; omega
    · obtain ⟨j, hj⟩ : ∃ j, xs.length - lag = j := ⟨_, rfl⟩
      obtain rfl : k = j := by omega
      have HJ := Lib.hid hj
      clear hj
      go_wp2_with (go_at_call 55; refine (ifNumber_any _ _).mono ?_; rintro e w' ⟨b3, n3, rfl, hx3, rfl⟩; have HX3 := Lib.hid hx3; clear hx3)
      go_ret2
      have hX : fop .quo .f32 (cn .f32 b) (cn .f32 (floatOfInt .f32 ((xs.length : Int) - lag))) = stepX (cl xs) lag := by
        rw [HS.out]
        unfold stepX
        rw [cl_len, HJ.out, show ((xs.length : Int) - lag) = ((k : Nat) : Int) by have := HJ.out; omega]
      exact ⟨_, _, ret_num (by rw [hX]), by rw [HX3.out, cn_fres, hX], rfl⟩

set_option maxHeartbeats 1000000 in
theorem specStep (A : Option Addr) (c : Nat) (xs : List Nat) (lag : Nat) (w : World) (hA : FRd w A xs) (hl : lstB xs = true) (h0 : 1 ≤ lag) (h1 : lag < xs.length) (h256 : xs.length ≤ 256) :
    Calls Try.prog 29 #[.slice A xs.length c, .int .i64 lag] w (NumB w (numX (stepX (cl xs) lag)) (finB (stepX (cl xs) lag))) := by
  have hn : xs.length ≤ maxLen := by unfold maxLen; omega
  obtain ⟨i0, hi, hz0, hz1, hz2⟩ := info_parts info.f32
  go_enter Try.func29, Try.ntmps29
  go_wp2_with fail
  refine (l06List_any _ _ _ _ hA hn).mono ?_
  rintro e w1 ⟨rfl, n1, rfl⟩
  rw [hl]
  go_wp2_with fail
  refine (in_any _ _ _ _).mono ?_
  rintro e w2 ⟨rfl, rfl⟩
  have hd1 : decide ((1 : Int) ≤ lag) = true := by simp; omega
  have hd2 : decide ((lag : Int) ≤ xs.length - 1) = true := by simp; omega
  rw [hd1, hd2]
  clear hd1 hd2
  go_wp2_with fail
  have hbase : Below w.heap.size w ((w.drewN n1).alloc (Obj.cells #[] 22)) := (below_drewN (Below.refl _ _) n1).alloc (Nat.le_refl _) _
  go_loopw [6, 7, 8] (fun v i _ wr => ∃ (k : Nat) (sq : List Nat), lag + k ≤ xs.length ∧ i = .int .i64 (lag + k : Nat) ∧ wr.ownsRow w.heap.size 22 1 v k (sq.map fv) ∧ Below w.heap.size w wr ∧ Hid (cl sq = squares (cl xs) lag k)) (fun _ i _ _ => xs.length - (intOf i).toNat)
  case atStart => exact ⟨0, [], by omega, by simp, own_made0 (w.drewN n1) w.heap.size 22 (Nat.le_refl _), hbase, Lib.hid rfl⟩
  case round =>
    obtain ⟨k, sq, hk, rfl, hown, hbel, HS⟩ := hrel
    by_cases hlt : lag + k < xs.length
    · obtain ⟨b', o', rfl, hb1, hc⟩ := hA.at_ hlt
      obtain ⟨b2, o2, hA2, _, hc2⟩ := hA.at_ (k := k) (by omega)
      injection hA2 with hA2
      injection hA2 with e1 e2
      subst e1; subst e2
      have hc := (hbel.cell hb1).trans hc
      have hc2 := (hbel.cell hb1).trans hc2
      go_wp2_with fail
      go_region
      go_wp2_with (at_builtin; refine wpList_push rfl _ _ 28 rfl w.heap.size 22 i0 (.float .f32 0) 4 Try.underlying28 hi hz0 hz1 hz2 rfl _ k (sq.map fv) rfl hown _ rfl rfl (by unfold maxLen; omega) (by omega) hbel.size ?_)
      intro v' w' hown' hb'
      have hb2 := (below_drewN hbel _).trans hb'
      clear hb' hown hbel hc hc2
      go_wp2
      go_roundw
      case rel => exact ⟨k + 1, sq ++ [_], by omega, by go_num, by rw [List.map_append]; exact hown', hb2, Lib.hid (by rw [squares_succ, ← HS.out, cl_snoc]; unfold stepsq; rw [cl_get hlt, cl_get (by omega)]; simp only [cn_fres])⟩
      case measure => simp [intOf]; omega
    · obtain ⟨j, hj⟩ : ∃ j, xs.length - lag = j := ⟨_, rfl⟩
      obtain rfl : k = j := by omega
      have HJ := Lib.hid hj
      clear hj
      obtain ⟨B, cB, rfl⟩ := own_slice hown
      have hsq : sq.length = k := by
        have := congrArg List.length HS.out
        rw [cl_len, squares_len] at this
        exact this
      subst hsq
      have hR : FRd wr B sq := Rd.of_own hown
      clear hown
      go_wp2_with fail
      refine (l06Mean_any _ _ _ _ hR (by unfold maxLen; omega)).mono ?_
      rintro e w3 ⟨b3, n3, rfl, hx3, rfl⟩
      have HX3 := Lib.hid hx3
      clear hx3
      go_wp2_with fail
      refine (l02Number_any _ _).mono ?_
      rintro e w4 ⟨b4, n4, rfl, hx4, rfl⟩
      have HX4 := Lib.hid hx4
      clear hx4
      go_wp2
      go_ret2
      have hX : cn .f32 b3 = stepX (cl xs) lag := by
        rw [HX3.out, HS.out]
        unfold stepX
        rw [cl_len, HJ.out]
      exact ⟨_, ret_num (by rw [hX]), by rw [HX4.out, hX], below_drewN hbel _⟩

theorem stepNo (A : Option Addr) (c : Nat) (xs : List Nat) (lag : Int) (w : World) (hA : FRd w A xs) (hn : xs.length ≤ maxLen) (h : lstB xs = false ∨ lag < 1 ∨ (xs.length : Int) - 1 < lag) :
    Calls Try.prog 29 #[.slice A xs.length c, .int .i64 lag] w (NumB w (cn .f32 0) false) ∧ Calls Try.prog 30 #[.slice A xs.length c, .int .i64 lag] w (NumB w (cn .f32 0) false) := by
  have hm := hn
  unfold maxLen at hm
  cases hl : lstB xs
  · clear h
    constructor
    · go_enter Try.func29, Try.ntmps29
      go_wp2_with fail
      refine (l06List_any _ _ _ _ hA hn).mono ?_
      rintro e w1 ⟨rfl, n1, rfl⟩
      rw [hl]
      go_wp2_with fail
      go_ret2
      exact ⟨_, rfl, rfl, below_drewN (Below.refl _ _) _⟩
    · go_enter Try.func30, Try.ntmps30
      go_wp2_with fail
      refine (isList_any _ _ _ _ hA hn).mono ?_
      rintro e w1 ⟨rfl, n1, rfl⟩
      rw [hl]
      go_wp2_with fail
      go_ret2
      exact ⟨_, rfl, rfl, below_drewN (Below.refl _ _) _⟩
  · have hd : (decide (1 ≤ lag) && decide (lag ≤ (xs.length : Int) - 1)) = false := by
      simp only [hl, Bool.true_eq_false, false_or] at h
      simp; omega
    clear h
    constructor
    · go_enter Try.func29, Try.ntmps29
      go_wp2_with fail
      refine (l06List_any _ _ _ _ hA hn).mono ?_
      rintro e w1 ⟨rfl, n1, rfl⟩
      rw [hl]
      go_wp2_with fail
      refine (in_any _ _ _ _).mono ?_
      rintro e w2 ⟨rfl, rfl⟩
      rw [hd]
      go_wp2_with fail
      go_ret2
      exact ⟨_, rfl, rfl, below_drewN (Below.refl _ _) _⟩
    · go_enter Try.func30, Try.ntmps30
      go_wp2_with fail
      refine (isList_any _ _ _ _ hA hn).mono ?_
      rintro e w1 ⟨rfl, n1, rfl⟩
      rw [hl]
      go_wp2_with fail
      refine (within_any _ _ _ _).mono ?_
      rintro e w2 ⟨rfl, rfl⟩
      rw [hd]
      go_wp2_with fail
      go_ret2
      exact ⟨_, rfl, rfl, below_drewN (Below.refl _ _) _⟩

theorem step_both (xs : List Nat) (lag : Int) (hn : xs.length ≤ maxLen) :
    ∃ X ok, ∀ (A : Option Addr) (c : Nat) w, FRd w A xs → Calls Try.prog 29 #[.slice A xs.length c, .int .i64 lag] w (NumB w X ok) ∧ Calls Try.prog 30 #[.slice A xs.length c, .int .i64 lag] w (NumB w X ok) := by
  by_cases h : lstB xs = true ∧ 1 ≤ lag ∧ lag ≤ (xs.length : Int) - 1
  · obtain ⟨hl, h0, h1⟩ := h
    obtain ⟨n, rfl⟩ := Int.eq_ofNat_of_zero_le (show 0 ≤ lag by omega)
    have h256 : xs.length ≤ 256 := by
      unfold lstB at hl
      simp at hl
      exact hl.1
    exact ⟨_, _, fun A c w hA => ⟨specStep A c xs n w hA hl (by omega) (by omega) h256, (implStep A c xs n w hA hl (by omega) (by omega) h256).mono fun _ _ h => h.b⟩⟩
  · have h' : lstB xs = false ∨ lag < 1 ∨ (xs.length : Int) - 1 < lag := by
      cases hl : lstB xs
      · exact .inl rfl
      · refine .inr ?_
        simp only [hl, true_and] at h
        omega
    exact ⟨_, _, fun A c w hA => stepNo A c xs lag w hA hn h'⟩

theorem stepLaw (A : Option Addr) (c : Nat) (xs : List Nat) (lag : Int) (w : World) (hA : FRd w A xs) (hn : xs.length ≤ maxLen) :
    Calls Try.prog 8 #[.slice A xs.length c, .int .i64 lag] w fun e w' => e = .returned (.bool true) ∧ Below w.heap.size w w' := by
  obtain ⟨X, ok, hb⟩ := step_both xs lag hn
  have HB := Lib.hid hb
  clear hb
  by_cases hl : xs.length ≤ 1048576
  · have hd : decide ((1048576 : Int) < xs.length) = false := by simp; omega
    go_enter Try.func8, Try.ntmps8
    go_wp2_with fail
    refine (toF32_any _ _ _ _ hA (by omega)).mono ?_
    rintro e w1 ⟨B1, c1, rfl, o1, k1⟩
    go_wp2_with fail
    refine (HB.out _ _ _ o1.1).1.mono ?_
    rintro e w2 ⟨b2, rfl, hx, k2⟩
    have HX := Lib.hid hx
    clear hx
    have hA1 : FRd w2 A xs := Rd.below (Rd.below hA k1) k2
    have K1 := Below.step k1 k2
    clear k1 o1 k2
    go_wp2_with fail
    refine (toF32_any _ _ _ w2 hA1 (by omega)).mono ?_
    rintro e w3 ⟨B3, c3, rfl, o3, k3⟩
    have hA3 := Rd.below hA1 k3
    have K3 := Below.step K1 k3
    clear k3 K1 hA1
    go_wp2_with fail
    refine (HB.out _ _ _ o3.1).2.mono ?_
    rintro e w4 ⟨b4, rfl, hx4, k4⟩
    have HX4 := Lib.hid hx4
    clear hx4
    have hA4 := Rd.below hA3 k4
    have o4 := o3.below k4
    have K4 := Below.step K3 k4
    clear k4 K3 hA3 o3 HB
    go_wp2_with fail
    refine (sameFloat_ok _ _ (by rw [cn_wres, cn_wres, HX.out, HX4.out]) _).mono ?_
    rintro e w5 ⟨rfl, n5, rfl⟩
    go_wp2_with fail
    refine (toF32_any _ _ _ _ (Rd.drewN hA4 _) (by omega)).mono ?_
    rintro e w6 ⟨B6, c6, rfl, o6, k6⟩
    have h6 : FRd w6 B3 xs := Rd.below (Rd.drewN o4.1 _) k6
    have K6 := Below.step (below_drewN K4 _) k6
    clear k6 K4 hA4 o4
    go_wp2_with fail
    refine (eqF32_ok _ _ _ _ _ _ _ h6 o6.1 hn rfl).mono ?_
    rintro e w7 ⟨rfl, n7, rfl⟩
    go_wp2
    go_ret
    exact ⟨rfl, below_drewN K6 _⟩
  · have hd : decide ((1048576 : Int) < xs.length) = true := by simp; omega
    go_enter Try.func8, Try.ntmps8
    go_wp2_with fail
    go_ret
    exact ⟨rfl, Below.refl _ _⟩
end Go.Proofs.Ytcdademaamoboaa
