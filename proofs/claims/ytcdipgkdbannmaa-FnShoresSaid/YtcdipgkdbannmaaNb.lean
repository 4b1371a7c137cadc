/- The neighbours of a place: both sides. -/
import Derived.Test.YtcdipgkdbannmaaMc
import Derived.Test.YtcdipgkdbannmaaBoxT
import Derived.Deep.CutRange
import Derived.BigQuiet
namespace Go.Proofs.Ytcdipgkdbannmaa
open Go.RowKit

def iv (k : Nat) : Value := .int .i64 (k : Nat)
/-- The neighbours of a place of a grid. -/
def nb0 (W i : Nat) : List Nat := if W ≤ i then [i - W] else []
def nb1 (W i : Nat) : List Nat := nb0 W i ++ if 0 < i % W then [i - 1] else []
def nb2 (W i : Nat) : List Nat := nb1 W i ++ if i % W + 1 < W then [i + 1] else []
def nbL (W H i : Nat) : List Nat := nb2 W i ++ if i + W < W * H then [i + W] else []
theorem nb0_len (W i : Nat) : (nb0 W i).length ≤ 1 := by unfold nb0; split <;> simp
theorem nb1_len (W i : Nat) : (nb1 W i).length ≤ 2 := by
  have := nb0_len W i
  unfold nb1; rw [List.length_append]; split <;> simp <;> omega
theorem nb2_len (W i : Nat) : (nb2 W i).length ≤ 3 := by
  have := nb1_len W i
  unfold nb2; rw [List.length_append]; split <;> simp <;> omega
theorem nbL_len (W H i : Nat) : (nbL W H i).length ≤ 4 := by
  have := nb2_len W i
  unfold nbL; rw [List.length_append]; split <;> simp <;> omega
theorem nbL_lt {W H i k : Nat} (hi : i < W * H) (h : k ∈ nbL W H i) : k < W * H := by
  have e : ∀ m, i % W = m → m + 1 < W → i + 1 < W * H := fun m hm hl => by
    have h1 : i / W < H := Nat.div_lt_of_lt_mul hi
    have h2 : W * (i / W + 1) ≤ W * H := Nat.mul_le_mul_left _ h1
    have h3 := Nat.div_add_mod i W
    rw [Nat.mul_add, Nat.mul_one] at h2
    omega
  unfold nbL nb2 nb1 nb0 at h
  simp only [List.mem_append] at h
  rcases h with ((h | h) | h) | h
  · split at h
    · simp at h; omega
    · cases h
  · split at h
    · simp at h; omega
    · cases h
  · split at h
    · simp at h
      have := e _ rfl (by assumption)
      omega
    · cases h
  · split at h
    · simp at h; omega
    · cases h
theorem info.i64 : (Try.prog.info? 2).map (fun i => (i.zero, i.size, i.bytes)) = some (some (.int .i64 0), 1, 8) := by kernel_rfl
def IntsR (w : World) (l : List Nat) (e : Ending) (w' : World) : Prop := ∃ A c, e = .returned (.slice A l.length c) ∧ OwnS w.heap.size w' A (l.map iv) ∧ Below w.heap.size w w'
set_option maxRecDepth 100000 in
set_option maxHeartbeats 4000000 in
theorem neighbours_any (W H i : Nat) (w : World) (hW : 1 ≤ W ∧ W ≤ 17) (hH : 1 ≤ H ∧ H ≤ 17) (hi : i < W * H) :
    Calls Try.prog 69 #[.int .i64 W, .int .i64 H, .int .i64 i] w (IntsR w (nbL W H i)) := by
  obtain ⟨i0, hi0, hz0, hz1, hz2⟩ := info_parts info.i64
  obtain ⟨W1, W2⟩ := hW
  obtain ⟨H1, H2⟩ := hH
  have hm : W * H ≤ 289 := Nat.le_trans (Nat.mul_le_mul W2 H2) (by decide)
  have hWH : W ≤ W * H := by have := Nat.mul_le_mul_left W H1; omega
  have hmM : Hid (((H : Int) - 1) * W = ((W * H - W : Nat) : Int)) := Lib.hid (by rw [Int.sub_mul, Int.one_mul, ← Int.natCast_mul, Nat.mul_comm H W]; omega)
  have hmN : Hid ((W : Int) * H = ((W * H : Nat) : Int)) := Lib.hid (by push_cast; rfl)
  obtain ⟨M, hM⟩ : ∃ M, M = W * H := ⟨_, rfl⟩
  have HM := Lib.hid hM
  rw [← hM] at hm hWH hmM hmN hi
  clear hM
  obtain ⟨l0, hl0⟩ : ∃ l, l = if W ≤ i then [i - W] else [] := ⟨_, rfl⟩
  obtain ⟨l1, hl1⟩ : ∃ l, l = l0 ++ if 0 < i % W then [i - 1] else [] := ⟨_, rfl⟩
  obtain ⟨l2, hl2⟩ : ∃ l, l = l1 ++ if i % W + 1 < W then [i + 1] else [] := ⟨_, rfl⟩
  obtain ⟨l3, hl3⟩ : ∃ l, l = l2 ++ if i + W < M then [i + W] else [] := ⟨_, rfl⟩
  have HL : Hid (nbL W H i = l3) := Lib.hid (by rw [hl3, hl2, hl1, hl0, HM.out]; rfl)
  have ll0 : l0.length ≤ 1 := by rw [hl0]; split <;> simp
  have ll1 : l1.length ≤ 2 := by rw [hl1, List.length_append]; split <;> simp <;> omega
  have ll2 : l2.length ≤ 3 := by rw [hl2, List.length_append]; split <;> simp <;> omega
  have HL0 := Lib.hid hl0
  have HL1 := Lib.hid hl1
  have HL2 := Lib.hid hl2
  have HL3 := Lib.hid hl3
  clear hl0 hl1 hl2 hl3
  obtain ⟨r, hr⟩ : ∃ r, i % W = r := ⟨_, rfl⟩
  have hrW : r < W := by rw [← hr]; exact Nat.mod_lt _ (by omega)
  have hri : r ≤ i := by rw [← hr]; exact Nat.mod_le _ _
  have hrz : Hid ((i : Int) % W = r) := Lib.hid (by rw [← hr]; push_cast; rfl)
  obtain ⟨w0, hw0⟩ : ∃ w0, w0 = w.alloc (.cells #[] 2) := ⟨_, rfl⟩
  have ho0 : w0.ownsRow w.heap.size 2 1 (.slice (some ⟨w.heap.size, 0, none⟩) 0 0) 0 [] := by rw [hw0]; exact own_made0 w w.heap.size 2 (Nat.le_refl _)
  have hb0 : Hid (Below w.heap.size w w0) := Lib.hid (by rw [hw0]; exact below_alloc _ _)
  go_enter Try.func69, Try.ntmps69
  go_upto_if 11 with fail
  rw [← hw0]
  clear hw0
  go_cut [7] from 11 to 17 (fun s7 wx => wx.ownsRow w.heap.size 2 1 s7 l0.length (l0.map iv) ∧ Hid (Below w.heap.size w wx))
  case first =>
    by_cases hc : W ≤ i
    · have HJ : Hid (l0 = [] ++ [i - W]) := Lib.hid (by have e := HL0.out; rw [if_pos hc] at e; exact e)
      have EV : Hid (iv (i - W) = .int .i64 ((i : Int) - W)) := Lib.hid (congrArg (Value.int .i64) (by omega))
      have hci : (W : Int) ≤ i := by omega
      clear hc
      go_wp2_with (at_builtin; refine wpList_push rfl _ _ 71 rfl w.heap.size 2 i0 (.int .i64 0) 8 Try.underlying71 hi0 hz0 hz1 hz2 rfl _ 0 [] rfl ho0 _ rfl rfl (by unfold maxLen; omega) (by omega) hb0.out.size ?_)
      intro v' w' ho hb
      have H1 : Hid (Below w.heap.size w w') := Lib.hid (hb0.out.trans hb)
      have H2 : Hid (w'.ownsRow w.heap.size 2 1 v' l0.length (l0.map iv)) := Lib.hid (by rw [HJ.out, List.length_append, List.map_append]; show w'.ownsRow w.heap.size 2 1 v' (0 + 1) ([] ++ [iv (i - W)]); rw [EV.out]; exact ho)
      clear ho hb
      go_wp2
      go_meet
      exact ⟨H2.out, H1⟩
    · have HJ : Hid (l0 = []) := Lib.hid (by have e := HL0.out; rw [if_neg hc] at e; simpa using e)
      have hci : ¬ (W : Int) ≤ i := by omega
      clear hc
      go_wp2_with fail
      go_meet
      exact ⟨by rw [HJ.out]; exact ho0, hb0⟩
  case rest =>
    obtain ⟨ho1, hb1⟩ := hcut
    clear ho0 hb0
    go_upto_if 21 with fail
    go_cut [7] from 18 to 26 (fun s7 wx => wx.ownsRow w.heap.size 2 1 s7 l1.length (l1.map iv) ∧ Hid (Below w.heap.size w wx))
    case first =>
      by_cases hc : 0 < i % W
      · have HJ : Hid (l1 = l0 ++ [i - 1]) := Lib.hid (by have e := HL1.out; rw [if_pos hc] at e; exact e)
        have EV : Hid (iv (i - 1) = .int .i64 ((i : Int) - 1)) := Lib.hid (congrArg (Value.int .i64) (by omega))
        have hci : 0 < (i : Int) % W := by rw [hrz.out]; omega
        clear hc
        go_wp2_with (at_builtin; refine wpList_push rfl _ _ 71 rfl w.heap.size 2 i0 (.int .i64 0) 8 Try.underlying71 hi0 hz0 hz1 hz2 rfl _ l0.length (l0.map iv) rfl ho1 _ rfl rfl (by unfold maxLen; omega) (by omega) hb1.out.size ?_)
        intro v' w' ho hb
        have H1 : Hid (Below w.heap.size w w') := Lib.hid (hb1.out.trans hb)
        have H2 : Hid (w'.ownsRow w.heap.size 2 1 v' l1.length (l1.map iv)) := Lib.hid (by rw [HJ.out, List.length_append, List.map_append]; show w'.ownsRow w.heap.size 2 1 v' (l0.length + 1) ((l0.map iv) ++ [iv (i - 1)]); rw [EV.out]; exact ho)
        clear ho hb
        go_wp2
        go_meet
        exact ⟨H2.out, H1⟩
      · have HJ : Hid (l1 = l0) := Lib.hid (by have e := HL1.out; rw [if_neg hc] at e; simpa using e)
        have hci : ¬ 0 < (i : Int) % W := by rw [hrz.out]; omega
        clear hc
        go_wp2_with fail
        go_meet
        exact ⟨by rw [HJ.out]; exact ho1, hb1⟩
    case rest =>
      obtain ⟨ho2, hb2⟩ := hcut
      clear ho1 hb1
      go_upto_if 32 with fail
      go_cut [7] from 27 to 37 (fun s7 wx => wx.ownsRow w.heap.size 2 1 s7 l2.length (l2.map iv) ∧ Hid (Below w.heap.size w wx))
      case first =>
        by_cases hc : i % W + 1 < W
        · have HJ : Hid (l2 = l1 ++ [i + 1]) := Lib.hid (by have e := HL2.out; rw [if_pos hc] at e; exact e)
          have EV : Hid (iv (i + 1) = .int .i64 ((i : Int) + 1)) := Lib.hid (congrArg (Value.int .i64) (by omega))
          have hci : (i : Int) % W < (W : Int) - 1 := by rw [hrz.out]; omega
          clear hc
          go_wp2_with (at_builtin; refine wpList_push rfl _ _ 71 rfl w.heap.size 2 i0 (.int .i64 0) 8 Try.underlying71 hi0 hz0 hz1 hz2 rfl _ l1.length (l1.map iv) rfl ho2 _ rfl rfl (by unfold maxLen; omega) (by omega) hb2.out.size ?_)
          intro v' w' ho hb
          have H1 : Hid (Below w.heap.size w w') := Lib.hid (hb2.out.trans hb)
          have H2 : Hid (w'.ownsRow w.heap.size 2 1 v' l2.length (l2.map iv)) := Lib.hid (by rw [HJ.out, List.length_append, List.map_append]; show w'.ownsRow w.heap.size 2 1 v' (l1.length + 1) ((l1.map iv) ++ [iv (i + 1)]); rw [EV.out]; exact ho)
          clear ho hb
          go_wp2
          go_meet
          exact ⟨H2.out, H1⟩
        · have HJ : Hid (l2 = l1) := Lib.hid (by have e := HL2.out; rw [if_neg hc] at e; simpa using e)
          have hci : ¬ (i : Int) % W < (W : Int) - 1 := by rw [hrz.out]; omega
          clear hc
          go_wp2_with fail
          go_meet
          exact ⟨by rw [HJ.out]; exact ho2, hb2⟩
      case rest =>
        obtain ⟨ho3, hb3⟩ := hcut
        clear ho2 hb2
        go_upto_if 43 with fail
        go_cut [7] from 38 to 49 (fun s7 wx => wx.ownsRow w.heap.size 2 1 s7 l3.length (l3.map iv) ∧ Hid (Below w.heap.size w wx))
        case first =>
          by_cases hc : i + W < M
          · have HJ : Hid (l3 = l2 ++ [i + W]) := Lib.hid (by have e := HL3.out; rw [if_pos hc] at e; exact e)
            have EV : Hid (iv (i + W) = .int .i64 ((i : Int) + W)) := Lib.hid (congrArg (Value.int .i64) (by omega))
            have hci : (i : Int) < wrap64 (((H : Int) - 1) * W) := by rw [hmM.out, IntWalk.wrap64_in _ (by omega)]; omega
            clear hc
            go_wp2_with (at_builtin; refine wpList_push rfl _ _ 71 rfl w.heap.size 2 i0 (.int .i64 0) 8 Try.underlying71 hi0 hz0 hz1 hz2 rfl _ l2.length (l2.map iv) rfl ho3 _ rfl rfl (by unfold maxLen; omega) (by omega) hb3.out.size ?_)
            all_goals (first | (exfalso; omega) | skip)
            intro v' w' ho hb
            have H1 : Hid (Below w.heap.size w w') := Lib.hid (hb3.out.trans hb)
            have H2 : Hid (w'.ownsRow w.heap.size 2 1 v' l3.length (l3.map iv)) := Lib.hid (by rw [HJ.out, List.length_append, List.map_append]; show w'.ownsRow w.heap.size 2 1 v' (l2.length + 1) ((l2.map iv) ++ [iv (i + W)]); rw [EV.out]; exact ho)
            clear ho hb
            go_wp2
            go_meet
            exact ⟨H2.out, H1⟩
          · have HJ : Hid (l3 = l2) := Lib.hid (by have e := HL3.out; rw [if_neg hc] at e; simpa using e)
            have hci : ¬ (i : Int) < wrap64 (((H : Int) - 1) * W) := by rw [hmM.out, IntWalk.wrap64_in _ (by omega)]; omega
            clear hc
            go_wp2_with fail
            all_goals (first | (exfalso; omega) | skip)
            go_meet
            exact ⟨by rw [HJ.out]; exact ho3, hb3⟩
        case rest =>
          obtain ⟨ho4, hb4⟩ := hcut
          clear ho3 hb3
          obtain ⟨A, c, rfl⟩ := own_slice ho4
          have HO := Lib.hid (OwnS.of_own ho4)
          clear ho4
          go_wp2
          go_ret
          exact ⟨A, c, by rw [HL.out]; rfl, by rw [HL.out]; exact HO.out, hb4.out⟩
set_option maxRecDepth 100000 in
set_option maxHeartbeats 4000000 in
theorem l05Beside_any (W H i p : Nat) (w : World) (hW : 1 ≤ W ∧ W ≤ 17) (hH : 1 ≤ H ∧ H ≤ 17) (hi : i < W * H) (s0 : w.cell? ⟨p, 0, none⟩ = some (.int .i64 W)) (s1 : w.cell? ⟨p, 1, none⟩ = some (.int .i64 H)) :
    Calls Try.prog 49 #[.pointer (some ⟨p, 0, none⟩), .int .i64 i] w (IntsR w (nbL W H i)) := by
  obtain ⟨i0, hi0, hz0, hz1, hz2⟩ := info_parts info.i64
  obtain ⟨W1, W2⟩ := hW
  have hp := World.block_lt_of_cell? _ _ s0
  obtain ⟨H1, H2⟩ := hH
  have hm : W * H ≤ 289 := Nat.le_trans (Nat.mul_le_mul W2 H2) (by decide)
  have hWH : W ≤ W * H := by have := Nat.mul_le_mul_left W H1; omega
  have hmM : Hid (((H : Int) - 1) * W = ((W * H - W : Nat) : Int)) := Lib.hid (by rw [Int.sub_mul, Int.one_mul, ← Int.natCast_mul, Nat.mul_comm H W]; omega)
  have hmN : Hid ((W : Int) * H = ((W * H : Nat) : Int)) := Lib.hid (by push_cast; rfl)
  obtain ⟨M, hM⟩ : ∃ M, M = W * H := ⟨_, rfl⟩
  have HM := Lib.hid hM
  rw [← hM] at hm hWH hmM hmN hi
  clear hM
  obtain ⟨l0, hl0⟩ : ∃ l, l = if W ≤ i then [i - W] else [] := ⟨_, rfl⟩
  obtain ⟨l1, hl1⟩ : ∃ l, l = l0 ++ if 0 < i % W then [i - 1] else [] := ⟨_, rfl⟩
  obtain ⟨l2, hl2⟩ : ∃ l, l = l1 ++ if i % W + 1 < W then [i + 1] else [] := ⟨_, rfl⟩
  obtain ⟨l3, hl3⟩ : ∃ l, l = l2 ++ if i + W < M then [i + W] else [] := ⟨_, rfl⟩
  have HL : Hid (nbL W H i = l3) := Lib.hid (by rw [hl3, hl2, hl1, hl0, HM.out]; rfl)
  have ll0 : l0.length ≤ 1 := by rw [hl0]; split <;> simp
  have ll1 : l1.length ≤ 2 := by rw [hl1, List.length_append]; split <;> simp <;> omega
  have ll2 : l2.length ≤ 3 := by rw [hl2, List.length_append]; split <;> simp <;> omega
  have HL0 := Lib.hid hl0
  have HL1 := Lib.hid hl1
  have HL2 := Lib.hid hl2
  have HL3 := Lib.hid hl3
  clear hl0 hl1 hl2 hl3
  obtain ⟨r, hr⟩ : ∃ r, i % W = r := ⟨_, rfl⟩
  have hrW : r < W := by rw [← hr]; exact Nat.mod_lt _ (by omega)
  have hri : r ≤ i := by rw [← hr]; exact Nat.mod_le _ _
  have hrz : Hid ((i : Int) % W = r) := Lib.hid (by rw [← hr]; push_cast; rfl)
  obtain ⟨w0, hw0⟩ : ∃ w0, w0 = w.alloc (.cells #[] 2) := ⟨_, rfl⟩
  have ho0 : w0.ownsRow w.heap.size 2 1 (.slice (some ⟨w.heap.size, 0, none⟩) 0 0) 0 [] := by rw [hw0]; exact own_made0 w w.heap.size 2 (Nat.le_refl _)
  have hb0 : Hid (Below w.heap.size w w0) := Lib.hid (by rw [hw0]; exact below_alloc _ _)
  have c0 : w0.cell? ⟨p, 0, none⟩ = some (.int .i64 W) := (hb0.out.cell (p := ⟨p, 0, none⟩) hp).trans s0
  have c1 : w0.cell? ⟨p, 1, none⟩ = some (.int .i64 H) := (hb0.out.cell (p := ⟨p, 1, none⟩) hp).trans s1
  go_enter Try.func49, Try.ntmps49
  go_upto_if 12 with fail
  rw [← hw0]
  clear hw0
  go_cut [5] from 7 to 21 (fun s7 wx => wx.ownsRow w.heap.size 2 1 s7 l0.length (l0.map iv) ∧ Hid (Below w.heap.size w wx))
  case first =>
    by_cases hc : W ≤ i
    · have HJ : Hid (l0 = [] ++ [i - W]) := Lib.hid (by have e := HL0.out; rw [if_pos hc] at e; exact e)
      have EV : Hid (iv (i - W) = .int .i64 ((i : Int) - W)) := Lib.hid (congrArg (Value.int .i64) (by omega))
      have hci : (W : Int) ≤ i := by omega
      clear hc
      go_wp2_with (at_builtin; refine wpList_push rfl _ _ 71 rfl w.heap.size 2 i0 (.int .i64 0) 8 Try.underlying71 hi0 hz0 hz1 hz2 rfl _ 0 [] rfl ho0 _ rfl rfl (by unfold maxLen; omega) (by omega) hb0.out.size ?_)
      intro v' w' ho hb
      have H1 : Hid (Below w.heap.size w w') := Lib.hid (hb0.out.trans hb)
      have H2 : Hid (w'.ownsRow w.heap.size 2 1 v' l0.length (l0.map iv)) := Lib.hid (by rw [HJ.out, List.length_append, List.map_append]; show w'.ownsRow w.heap.size 2 1 v' (0 + 1) ([] ++ [iv (i - W)]); rw [EV.out]; exact ho)
      clear ho hb
      go_wp2
      go_meet
      exact ⟨H2.out, H1⟩
    · have HJ : Hid (l0 = []) := Lib.hid (by have e := HL0.out; rw [if_neg hc] at e; simpa using e)
      have hci : ¬ (W : Int) ≤ i := by omega
      clear hc
      go_wp2_with fail
      go_meet
      exact ⟨by rw [HJ.out]; exact ho0, hb0⟩
  case rest =>
    obtain ⟨ho1, hb1⟩ := hcut
    clear ho0 hb0
    have c0 := (hb1.out.cell (p := ⟨p, 0, none⟩) hp).trans s0
    have c1 := (hb1.out.cell (p := ⟨p, 1, none⟩) hp).trans s1
    go_upto_if 28 with fail
    go_cut [5] from 22 to 33 (fun s7 wx => wx.ownsRow w.heap.size 2 1 s7 l1.length (l1.map iv) ∧ Hid (Below w.heap.size w wx))
    case first =>
      by_cases hc : 0 < i % W
      · have HJ : Hid (l1 = l0 ++ [i - 1]) := Lib.hid (by have e := HL1.out; rw [if_pos hc] at e; exact e)
        have EV : Hid (iv (i - 1) = .int .i64 ((i : Int) - 1)) := Lib.hid (congrArg (Value.int .i64) (by omega))
        have hci : 0 < (i : Int) % W := by rw [hrz.out]; omega
        clear hc
        go_wp2_with (at_builtin; refine wpList_push rfl _ _ 71 rfl w.heap.size 2 i0 (.int .i64 0) 8 Try.underlying71 hi0 hz0 hz1 hz2 rfl _ l0.length (l0.map iv) rfl ho1 _ rfl rfl (by unfold maxLen; omega) (by omega) hb1.out.size ?_)
        intro v' w' ho hb
        have H1 : Hid (Below w.heap.size w w') := Lib.hid (hb1.out.trans hb)
        have H2 : Hid (w'.ownsRow w.heap.size 2 1 v' l1.length (l1.map iv)) := Lib.hid (by rw [HJ.out, List.length_append, List.map_append]; show w'.ownsRow w.heap.size 2 1 v' (l0.length + 1) ((l0.map iv) ++ [iv (i - 1)]); rw [EV.out]; exact ho)
        clear ho hb
        go_wp2
        go_meet
        exact ⟨H2.out, H1⟩
      · have HJ : Hid (l1 = l0) := Lib.hid (by have e := HL1.out; rw [if_neg hc] at e; simpa using e)
        have hci : ¬ 0 < (i : Int) % W := by rw [hrz.out]; omega
        clear hc
        go_wp2_with fail
        go_meet
        exact ⟨by rw [HJ.out]; exact ho1, hb1⟩
    case rest =>
      obtain ⟨ho2, hb2⟩ := hcut
      clear ho1 hb1
      have c0 := (hb2.out.cell (p := ⟨p, 0, none⟩) hp).trans s0
      have c1 := (hb2.out.cell (p := ⟨p, 1, none⟩) hp).trans s1
      go_wp2_with fail
      go_quiet (fail)
      have ho2 : (World.drewN wc nq).ownsRow w.heap.size 2 1 _ l1.length (l1.map iv) := ho2
      have hb2 : Hid (Below w.heap.size w (World.drewN wc nq)) := Lib.hid (below_drewN hb2.out _)
      go_upto_if 45 with fail
      go_cut [5] from 34 to 50 (fun s7 wx => wx.ownsRow w.heap.size 2 1 s7 l2.length (l2.map iv) ∧ Hid (Below w.heap.size w wx))
      case first =>
        by_cases hc : i % W + 1 < W
        · have HJ : Hid (l2 = l1 ++ [i + 1]) := Lib.hid (by have e := HL2.out; rw [if_pos hc] at e; exact e)
          have EV : Hid (iv (i + 1) = .int .i64 ((i : Int) + 1)) := Lib.hid (congrArg (Value.int .i64) (by omega))
          have hci : (i : Int) % W + 1 < (W : Int) := by rw [hrz.out]; omega
          clear hc
          go_wp2_with (at_builtin; refine wpList_push rfl _ _ 71 rfl w.heap.size 2 i0 (.int .i64 0) 8 Try.underlying71 hi0 hz0 hz1 hz2 rfl _ l1.length (l1.map iv) rfl ho2 _ rfl rfl (by unfold maxLen; omega) (by omega) hb2.out.size ?_)
          intro v' w' ho hb
          have H1 : Hid (Below w.heap.size w w') := Lib.hid (hb2.out.trans hb)
          have H2 : Hid (w'.ownsRow w.heap.size 2 1 v' l2.length (l2.map iv)) := Lib.hid (by rw [HJ.out, List.length_append, List.map_append]; show w'.ownsRow w.heap.size 2 1 v' (l1.length + 1) ((l1.map iv) ++ [iv (i + 1)]); rw [EV.out]; exact ho)
          clear ho hb
          go_wp2
          go_meet
          exact ⟨H2.out, H1⟩
        · have HJ : Hid (l2 = l1) := Lib.hid (by have e := HL2.out; rw [if_neg hc] at e; simpa using e)
          have hci : ¬ (i : Int) % W + 1 < (W : Int) := by rw [hrz.out]; omega
          clear hc
          go_wp2_with fail
          go_meet
          exact ⟨by rw [HJ.out]; exact ho2, hb2⟩
      case rest =>
        obtain ⟨ho3, hb3⟩ := hcut
        clear ho2 hb2
        have c0 := (hb3.out.cell (p := ⟨p, 0, none⟩) hp).trans s0
        have c1 := (hb3.out.cell (p := ⟨p, 1, none⟩) hp).trans s1
        go_wp2_with fail
        go_quiet (fail)
        have ho3 : (World.drewN wc nq).ownsRow w.heap.size 2 1 _ l2.length (l2.map iv) := ho3
        have hb3 : Hid (Below w.heap.size w (World.drewN wc nq)) := Lib.hid (below_drewN hb3.out _)
        go_upto_if 66 with fail
        have hww : wrap64 ((W : Int) * H) = (M : Int) := by rw [hmN.out, IntWalk.wrap64_in _ (by omega)]
        rw [hww]
        clear hww
        go_cut [5] from 51 to 75 (fun s7 wx => wx.ownsRow w.heap.size 2 1 s7 l3.length (l3.map iv) ∧ Hid (Below w.heap.size w wx))
        case first =>
          by_cases hc : i + W < M
          · have HJ : Hid (l3 = l2 ++ [i + W]) := Lib.hid (by have e := HL3.out; rw [if_pos hc] at e; exact e)
            have EV : Hid (iv (i + W) = .int .i64 ((i : Int) + W)) := Lib.hid (congrArg (Value.int .i64) (by omega))
            have hci : (i : Int) + W < M := by omega
            clear hc
            go_wp2_with (at_builtin; refine wpList_push rfl _ _ 71 rfl w.heap.size 2 i0 (.int .i64 0) 8 Try.underlying71 hi0 hz0 hz1 hz2 rfl _ l2.length (l2.map iv) rfl ho3 _ rfl rfl (by unfold maxLen; omega) (by omega) hb3.out.size ?_)
            intro v' w' ho hb
            have H1 : Hid (Below w.heap.size w w') := Lib.hid (hb3.out.trans hb)
            have H2 : Hid (w'.ownsRow w.heap.size 2 1 v' l3.length (l3.map iv)) := Lib.hid (by rw [HJ.out, List.length_append, List.map_append]; show w'.ownsRow w.heap.size 2 1 v' (l2.length + 1) ((l2.map iv) ++ [iv (i + W)]); rw [EV.out]; exact ho)
            clear ho hb
            go_wp2
            go_meet
            exact ⟨H2.out, H1⟩
          · have HJ : Hid (l3 = l2) := Lib.hid (by have e := HL3.out; rw [if_neg hc] at e; simpa using e)
            have hci : ¬ (i : Int) + W < M := by omega
            clear hc
            go_wp2_with fail
            go_meet
            exact ⟨by rw [HJ.out]; exact ho3, hb3⟩
        case rest =>
          obtain ⟨ho4, hb4⟩ := hcut
          clear ho3 hb3
          obtain ⟨A, c, rfl⟩ := own_slice ho4
          have HO := Lib.hid (OwnS.of_own ho4)
          clear ho4
          go_wp2
          go_ret
          exact ⟨A, c, by rw [HL.out]; rfl, by rw [HL.out]; exact HO.out, hb4.out⟩
end Go.Proofs.Ytcdipgkdbannmaa
