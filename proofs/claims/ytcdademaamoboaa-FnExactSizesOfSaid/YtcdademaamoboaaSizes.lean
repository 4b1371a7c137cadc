/- SizesOf, both sides. -/
import Derived.Test.YtcdademaamoboaaListR
import Derived.Test.YtcdademaamoboaaStep
namespace Go.Proofs.Ytcdademaamoboaa
open Go.RowKit

def posB (K : Nat) : Bool := ford .f32 K (cn .f32 0) == some .gt
def aboveB (K : Nat) : Bool := finB K && posB K

theorem l02Above_any (x : Nat) (w : World) : Calls Try.prog 50 #[.float .f32 x] w fun e w' => e = .returned (.bool (aboveB (cn .f32 x))) ∧ ∃ n, w' = w.drewN n := by
  cases hf : finB (cn .f32 x)
  · go_enter Try.func50, Try.ntmps50
    go_wp2_with fail
    refine (l01Finite_any _ _).mono ?_
    rintro e w1 ⟨rfl, n, rfl⟩
    rw [hf]
    go_wp2
    go_ret
    exact ⟨ret_bool (by simp [aboveB, hf]), _, rfl⟩
  · go_enter Try.func50, Try.ntmps50
    go_wp2_with fail
    refine (l01Finite_any _ _).mono ?_
    rintro e w1 ⟨rfl, n, rfl⟩
    rw [hf]
    go_wp2
    go_ret
    exact ⟨ret_bool (by simp [aboveB, posB, hf]), _, rfl⟩

def szV (X Y : Nat) : Nat → Nat
  | 0 => X
  | k + 1 => fop .mul .f32 (szV X Y k) Y
def szL (X Y : Nat) (n : Nat) : List Nat := (List.range n).map (szV X Y)
theorem szL_succ (X Y : Nat) (n : Nat) : szL X Y (n + 1) = szL X Y n ++ [szV X Y n] := by simp [szL, List.range_succ]
theorem szL_len (X Y : Nat) (n : Nat) : (szL X Y n).length = n := by simp [szL]
theorem szL_get (X Y : Nat) {n k : Nat} (h : k < n) : (szL X Y n)[k]? = some (szV X Y k) := by simp [szL, h]

def szR (X Y n : Nat) : List Nat := if (szL X Y n).all finB then szL X Y n else []

set_option maxHeartbeats 1000000 in
theorem specSizes_yes (n x y : Nat) (w : World) (h1 : 1 ≤ n) (hn : n ≤ 32) (hx : aboveB (cn .f32 x) = true) (hy : aboveB (cn .f32 y) = true) :
    Calls Try.prog 27 #[.float .f32 x, .float .f32 y, .int .i64 n] w (ListR w (szR (cn .f32 x) (cn .f32 y) n) ((szL (cn .f32 x) (cn .f32 y) n).all finB)) := by
  obtain ⟨i0, hi, hz0, hz1, hz2⟩ := info_parts info.f32
  have hd1 : (decide (1 ≤ (n : Int)) && decide ((n : Int) ≤ 32)) = true := by simp; omega
  have HS1 := Lib.hid hd1
  clear hd1
  go_enter Try.func27, Try.ntmps27
  go_wp2_with fail
  refine (l02Above_any _ _).mono ?_
  rintro e w1 ⟨rfl, n1, rfl⟩
  rw [hx]
  go_wp2_with fail
  refine (l02Above_any _ _).mono ?_
  rintro e w1 ⟨rfl, n2, rfl⟩
  rw [hy]
  go_wp2_with fail
  refine (in_any _ _ _ _).mono ?_
  rintro e w1 ⟨rfl, rfl⟩
  rw [HS1.out]
  clear hx hy
  go_wp2_with fail
  go_loopw [8, 9, 10] (fun v vx i wr => ∃ (k bx m : Nat) (xs : List Nat), k ≤ n ∧ i = .int .i64 k ∧ vx = .float .f32 bx ∧ wr.ownsRow w.heap.size 22 1 v k (xs.map fv) ∧ Below w.heap.size w wr ∧
      Hid (cl xs = szL (cn .f32 x) (cn .f32 y) k) ∧ Hid (cn .f32 bx = szV (cn .f32 x) (cn .f32 y) (k - 1))) (fun _ _ i _ => n - (intOf i).toNat)
  case atStart => exact ⟨0, _, 0, [], Nat.zero_le _, rfl, rfl, own_made0 _ w.heap.size 22 (Nat.le_refl _), (below_drewN (Below.refl _ _) (n1 + n2)).trans (below_alloc (w.drewN (n1 + n2)) _), Lib.hid rfl, Lib.hid rfl⟩
  case round =>
    obtain ⟨k, bx, m, xs, hk, rfl, rfl, hown, hbel, HL, HX⟩ := hrel
    by_cases hlt : k < n
    · rcases Nat.eq_zero_or_pos k with rfl | hk0
      · go_wp2_with (at_builtin; refine wpList_push rfl _ _ 28 rfl w.heap.size 22 i0 (.float .f32 0) 4 Try.underlying28 hi hz0 hz1 hz2 rfl _ 0 (xs.map fv) rfl hown _ rfl rfl (by unfold maxLen; omega) (by omega) hbel.size ?_)
        intro v' w' hown' hb'
        have hb2 := hbel.trans hb'
        clear hb' hown hbel
        go_wp2
        go_roundw
        case rel => exact ⟨1, _, 0, xs ++ [_], by omega, by go_num, rfl, by rw [List.map_append]; exact hown', hb2, Lib.hid (by rw [szL_succ, ← HL.out, cl_snoc]; congr 2; try exact HX.out), HX⟩
        case measure => simp [intOf]; omega
      · go_wp2_with (at_builtin; refine wpList_push rfl _ _ 28 rfl w.heap.size 22 i0 (.float .f32 0) 4 Try.underlying28 hi hz0 hz1 hz2 rfl _ k (xs.map fv) rfl hown _ rfl rfl (by unfold maxLen; omega) (by omega) hbel.size ?_)
        intro v' w' hown' hb'
        have hb2 := (below_drewN hbel _).trans hb'
        clear hb' hown hbel
        go_wp2
        have hs : szV (cn .f32 x) (cn .f32 y) k = fop .mul .f32 (szV (cn .f32 x) (cn .f32 y) (k - 1)) (cn .f32 y) := by
          obtain ⟨j, rfl⟩ := Nat.exists_eq_succ_of_ne_zero (Nat.ne_of_gt hk0)
          rfl
        go_roundw
        case rel => exact ⟨k + 1, _, 0, xs ++ [_], by omega, by go_num, rfl, by rw [List.map_append]; exact hown', hb2, Lib.hid (by rw [szL_succ, ← HL.out, cl_snoc]; congr 2; simp only [cn_fres, HX.out, hs]), Lib.hid (by rw [Nat.add_sub_cancel]; simp only [cn_fres, HX.out, hs])⟩
        case measure => simp [intOf]; omega
    · obtain rfl : k = n := by omega
      obtain ⟨B, cB, rfl⟩ := own_slice hown
      have hxs : xs.length = k := by
        have := congrArg List.length HL.out
        rw [cl_len, szL_len] at this
        exact this
      subst hxs
      have hO := OwnS.of_own hown
      clear hown
      cases hf : finL xs
      · go_wp2_with fail
        refine (l02List_no B _ xs _ hO.1 (by unfold maxLen; omega) hf).mono ?_
        rintro e w3 ⟨rfl, n3, rfl⟩
        go_wp2
        go_ret2
        rw [finL_cl, HL.out] at hf
        rw [szR, hf]
        exact listR_none (below_drewN hbel _)
      · go_wp2_with fail
        refine (l02List_yes B _ xs _ hO.1 (by unfold maxLen; omega) hf).mono ?_
        rintro e w3 ⟨rfl, n3, rfl⟩
        go_wp2
        go_ret2
        rw [finL_cl, HL.out] at hf
        rw [szR, hf]
        exact ⟨B, _, xs, rfl, HL.out, hO, below_drewN hbel _⟩


set_option maxHeartbeats 1000000 in
theorem implSizes_yes (n x y : Nat) (w : World) (hn : n + 1 ≤ 32) (hx : aboveB (cn .f32 x) = true) (hy : aboveB (cn .f32 y) = true) :
    Calls Try.prog 28 #[.float .f32 x, .float .f32 y, .int .i64 ((n : Int) + 1)] w (ListR w (szR (cn .f32 x) (cn .f32 y) (n + 1)) ((szL (cn .f32 x) (cn .f32 y) (n + 1)).all finB)) := by
  obtain ⟨i0, hi, hz0, hz1, hz2⟩ := info_parts info.f32
  have hd1 : (decide (1 ≤ (n : Int) + 1) && decide ((n : Int) + 1 ≤ 32)) = true := by simp; omega
  have HS1 := Lib.hid hd1
  clear hd1
  unfold aboveB posB at hx hy
  rw [Bool.and_eq_true] at hx hy
  obtain ⟨hx1, hx2⟩ := hx
  obtain ⟨hy1, hy2⟩ := hy
  go_enter Try.func28, Try.ntmps28
  go_wp2_with fail
  refine (isFinite_any _ _).mono ?_
  rintro e w1 ⟨rfl, n1, rfl⟩
  rw [hx1]
  go_wp2_with fail
  refine (isFinite_any _ _).mono ?_
  rintro e w1 ⟨rfl, n2, rfl⟩
  rw [hy1]
  go_wp2_with fail
  refine (within_any _ _ _ _).mono ?_
  rintro e w1 ⟨rfl, rfl⟩
  rw [HS1.out]
  clear hx1 hy1 hx2 hy2
  go_wp2_with fail
  go_loopw [8, 36] (fun v i wr => ∃ (k : Nat) (xs : List Nat), k ≤ n ∧ i = .int .i64 k ∧ wr.ownsRow w.heap.size 22 1 v (k + 1) (xs.map fv) ∧ Below w.heap.size w wr ∧
      Hid (cl xs = szL (cn .f32 x) (cn .f32 y) (k + 1))) (fun _ i _ => n - (intOf i).toNat)
  case atStart => exact ⟨0, [x], Nat.zero_le _, rfl, own_made1 (w.drewN (n1 + n2)) w.heap.size 22 (fv x) (Nat.le_refl _), (below_drewN (Below.refl _ _) (n1 + n2)).trans (below_alloc (w.drewN (n1 + n2)) _), Lib.hid rfl⟩
  case round =>
    obtain ⟨k, xs, hk, rfl, hown, hbel, HL⟩ := hrel
    obtain ⟨B, cB, rfl⟩ := own_slice hown
    have hxs : xs.length = k + 1 := by
      have := congrArg List.length HL.out
      rw [cl_len, szL_len] at this
      exact this
    by_cases hlt : k < n
    · have hO := OwnS.of_own hown
      have hR : FRd wr B xs := hO.1
      obtain ⟨b, o, rfl, hb, hc⟩ := hR.at_ (k := k) (by omega)
      have hk0 : cn .f32 xs[k] = szV (cn .f32 x) (cn .f32 y) k := by
        have := congrArg (·[k]?) HL.out
        simp only [cl, List.getElem?_map, List.getElem?_eq_getElem (show k < xs.length by omega), szL_get _ _ (show k < k + 1 by omega)] at this
        simpa using this
      have HK := Lib.hid hk0
      clear hk0 hO hR
      go_wp2_with (at_builtin; refine wpList_push rfl _ _ 28 rfl w.heap.size 22 i0 (.float .f32 0) 4 Try.underlying28 hi hz0 hz1 hz2 rfl _ (k + 1) (xs.map fv) rfl hown _ rfl rfl (by unfold maxLen; omega) (by omega) hbel.size ?_)
      intro v' w' hown' hb'
      have hb2 := (below_drewN hbel _).trans hb'
      clear hb' hown hbel hc
      go_wp2
      go_roundw
      case rel => exact ⟨k + 1, xs ++ [_], by omega, by go_num, by rw [List.map_append]; exact hown', hb2, Lib.hid (by rw [szL_succ, ← HL.out, cl_snoc]; congr 2; simp only [cn_fres, HK.out, szV])⟩
      case measure => simp [intOf]; omega
    · obtain rfl : k = n := by omega
      have hL := hxs.symm
      have HE := Lib.hid hL
      have hb32 : xs.length ≤ 32 := by omega
      clear hxs
      rw [hL] at hown ⊢
      clear hL
      have hO := OwnS.of_own hown
      clear hown
      cases hf : finL xs
      · go_wp2_with fail
        refine (areFinite_any B _ xs _ hO.1 (by unfold maxLen; omega)).mono ?_
        rintro e w3 ⟨rfl, n3, rfl⟩
        rw [hf]
        go_wp2
        go_ret2
        rw [finL_cl, HL.out] at hf
        rw [szR, hf]
        exact listR_none (below_drewN hbel _)
      · go_wp2_with fail
        refine (areFinite_any B _ xs _ hO.1 (by unfold maxLen; omega)).mono ?_
        rintro e w3 ⟨rfl, n3, rfl⟩
        rw [hf]
        go_wp2
        go_ret2
        rw [finL_cl, HL.out] at hf
        rw [szR, hf]
        exact ⟨B, _, xs, rfl, HL.out, hO, below_drewN hbel _⟩

def szOk (X Y : Nat) (n : Int) : Bool := aboveB X && aboveB Y && (decide (1 ≤ n) && decide (n ≤ 32))

theorem specSizes_no (n : Int) (x y : Nat) (w : World) (h : szOk (cn .f32 x) (cn .f32 y) n = false) : Calls Try.prog 27 #[.float .f32 x, .float .f32 y, .int .i64 n] w (ListR w [] false) := by
  have h3 := h
  unfold szOk at h3
  cases hx : aboveB (cn .f32 x)
  · clear h3
    go_enter Try.func27, Try.ntmps27
    go_wp2_with fail
    refine (l02Above_any _ _).mono ?_
    rintro e w1 ⟨rfl, n1, rfl⟩
    rw [hx]
    go_wp2
    go_ret2
    exact listR_no _ _
  · cases hy : aboveB (cn .f32 y)
    · clear h3
      go_enter Try.func27, Try.ntmps27
      go_wp2_with fail
      refine (l02Above_any _ _).mono ?_
      rintro e w1 ⟨rfl, n1, rfl⟩
      rw [hx]
      go_wp2_with fail
      refine (l02Above_any _ _).mono ?_
      rintro e w1 ⟨rfl, n2, rfl⟩
      rw [hy]
      go_wp2
      go_ret2
      exact listR_no _ _
    · rw [hx, hy, Bool.true_and, Bool.true_and] at h3
      have HS1 := Lib.hid h3
      clear h h3
      go_enter Try.func27, Try.ntmps27
      go_wp2_with fail
      refine (l02Above_any _ _).mono ?_
      rintro e w1 ⟨rfl, n1, rfl⟩
      rw [hx]
      go_wp2_with fail
      refine (l02Above_any _ _).mono ?_
      rintro e w1 ⟨rfl, n2, rfl⟩
      rw [hy]
      go_wp2_with fail
      refine (in_any _ _ _ _).mono ?_
      rintro e w1 ⟨rfl, rfl⟩
      rw [HS1.out]
      go_wp2
      go_ret2
      exact listR_no _ _

theorem implSizes_no (n : Int) (x y : Nat) (w : World) (h : szOk (cn .f32 x) (cn .f32 y) n = false) : Calls Try.prog 28 #[.float .f32 x, .float .f32 y, .int .i64 n] w (ListR w [] false) := by
  have h3 := h
  unfold szOk aboveB at h3
  cases fx : finB (cn .f32 x)
  · clear h3
    go_enter Try.func28, Try.ntmps28
    go_wp2_with fail
    refine (isFinite_any _ _).mono ?_
    rintro e w1 ⟨rfl, n1, rfl⟩
    rw [fx]
    go_wp2
    go_ret2
    exact listR_no _ _
  · cases fy : finB (cn .f32 y)
    · clear h3
      go_enter Try.func28, Try.ntmps28
      go_wp2_with fail
      refine (isFinite_any _ _).mono ?_
      rintro e w1 ⟨rfl, n1, rfl⟩
      rw [fx]
      go_wp2_with fail
      refine (isFinite_any _ _).mono ?_
      rintro e w1 ⟨rfl, n2, rfl⟩
      rw [fy]
      go_wp2
      go_ret2
      exact listR_no _ _
    · cases px : posB (cn .f32 x)
      · clear h3
        unfold posB at px
        go_enter Try.func28, Try.ntmps28
        go_wp2_with fail
        refine (isFinite_any _ _).mono ?_
        rintro e w1 ⟨rfl, n1, rfl⟩
        rw [fx]
        go_wp2_with fail
        refine (isFinite_any _ _).mono ?_
        rintro e w1 ⟨rfl, n2, rfl⟩
        rw [fy]
        go_wp2
        go_ret2
        exact listR_no _ _
      · cases py : posB (cn .f32 y)
        · clear h3
          unfold posB at px py
          go_enter Try.func28, Try.ntmps28
          go_wp2_with fail
          refine (isFinite_any _ _).mono ?_
          rintro e w1 ⟨rfl, n1, rfl⟩
          rw [fx]
          go_wp2_with fail
          refine (isFinite_any _ _).mono ?_
          rintro e w1 ⟨rfl, n2, rfl⟩
          rw [fy]
          go_wp2
          go_ret2
          exact listR_no _ _
        · rw [fx, fy, px, py] at h3
          have HS1 := Lib.hid (show (decide (1 ≤ n) && decide (n ≤ 32)) = false by simpa using h3)
          clear h h3
          unfold posB at px py
          go_enter Try.func28, Try.ntmps28
          go_wp2_with fail
          refine (isFinite_any _ _).mono ?_
          rintro e w1 ⟨rfl, n1, rfl⟩
          rw [fx]
          go_wp2_with fail
          refine (isFinite_any _ _).mono ?_
          rintro e w1 ⟨rfl, n2, rfl⟩
          rw [fy]
          go_wp2_with fail
          refine (within_any _ _ _ _).mono ?_
          rintro e w1 ⟨rfl, rfl⟩
          rw [HS1.out]
          go_wp2
          go_ret2
          exact listR_no _ _

theorem sizes_both (n : Int) (x y : Nat) : ∃ l ok, l.length ≤ 1048576 ∧ ∀ w, Calls Try.prog 27 #[.float .f32 x, .float .f32 y, .int .i64 n] w (ListR w l ok) ∧ Calls Try.prog 28 #[.float .f32 x, .float .f32 y, .int .i64 n] w (ListR w l ok) := by
  cases h : szOk (cn .f32 x) (cn .f32 y) n
  · exact ⟨_, _, by simp, fun w => ⟨specSizes_no n x y w h, implSizes_no n x y w h⟩⟩
  · simp [szOk] at h
    obtain ⟨⟨hx, hy⟩, n0, n1⟩ := h
    obtain ⟨m, hm⟩ := Int.eq_ofNat_of_zero_le (show 0 ≤ n - 1 by omega)
    obtain rfl : n = (m : Int) + 1 := by omega
    refine ⟨szR (cn .f32 x) (cn .f32 y) (m + 1), (szL (cn .f32 x) (cn .f32 y) (m + 1)).all finB, ?_, fun w => ⟨?_, implSizes_yes m x y w (by omega) hx hy⟩⟩
    rotate_left
    · have := specSizes_yes (m + 1) x y w (by omega) (by omega) hx hy
      rw [show ((m + 1 : Nat) : Int) = (m : Int) + 1 from rfl] at this
      exact this
    unfold szR
    split
    · rw [szL_len]; omega
    · simp
end Go.Proofs.Ytcdademaamoboaa
