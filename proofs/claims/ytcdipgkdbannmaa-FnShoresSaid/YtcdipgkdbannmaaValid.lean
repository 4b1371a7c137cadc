/- ValidSheet, both sides. -/
import Derived.Test.YtcdipgkdbannmaaSheet
import Derived.Test.YtcdipgkdbannmaaFin
namespace Go.Proofs.Ytcdipgkdbannmaa
open Go.RowKit

theorem in_yes (n lo hi : Int) (w : World) (h : lo ≤ n ∧ n ≤ hi) : Calls Try.prog 33 #[.int .i64 n, .int .i64 lo, .int .i64 hi] w fun e w' => e = .returned (.bool true) ∧ w' = w :=
  (in_any n lo hi w).mono fun _ _ ⟨he, hw⟩ => ⟨by rw [he, decide_eq_true h.1, decide_eq_true h.2]; rfl, hw.symm⟩
theorem in_no (n lo hi : Int) (w : World) (h : n < lo ∨ hi < n) : Calls Try.prog 33 #[.int .i64 n, .int .i64 lo, .int .i64 hi] w fun e w' => e = .returned (.bool false) ∧ w' = w :=
  (in_any n lo hi w).mono fun _ _ ⟨he, hw⟩ => ⟨by rw [he]; congr 2; simp; omega, hw.symm⟩
theorem side_yes (n : Int) (w : World) (h : 1 ≤ n ∧ n ≤ 17) : Calls Try.prog 37 #[.int .i64 n] w fun e w' => e = .returned (.bool true) ∧ w = w' := by
  have hd : (decide (1 ≤ n) && decide (n ≤ 17)) = true := by simp; omega
  go_enter Try.func37, Try.ntmps37
  go_wp2_with fail
  refine (within_any _ _ _ _).mono ?_
  rintro e w' ⟨rfl, rfl⟩
  rw [hd]
  go_wp2
  go_ret
  exact ⟨rfl, rfl⟩
theorem side_no (n : Int) (w : World) (h : n < 1 ∨ 17 < n) : Calls Try.prog 37 #[.int .i64 n] w fun e w' => e = .returned (.bool false) ∧ w = w' := by
  have hd : (decide (1 ≤ n) && decide (n ≤ 17)) = false := by simp; omega
  go_enter Try.func37, Try.ntmps37
  go_wp2_with fail
  refine (within_any _ _ _ _).mono ?_
  rintro e w' ⟨rfl, rfl⟩
  rw [hd]
  go_wp2
  go_ret
  exact ⟨rfl, rfl⟩

def shB (sw sh : Int) (xs : List Nat) : Bool := (decide (1 ≤ sw) && decide (sw ≤ 17)) && (decide (1 ≤ sh) && decide (sh ≤ 17)) && decide ((xs.length : Int) = sw * sh) && finL xs

theorem shB_sw {sw sh : Int} {xs : List Nat} (h : sw < 1 ∨ 17 < sw) : shB sw sh xs = false := by
  have : (decide (1 ≤ sw) && decide (sw ≤ 17)) = false := by simp; omega
  unfold shB; rw [this]; rfl
theorem shB_sh {sw sh : Int} {xs : List Nat} (h : sh < 1 ∨ 17 < sh) : shB sw sh xs = false := by
  have : (decide (1 ≤ sh) && decide (sh ≤ 17)) = false := by simp; omega
  unfold shB; rw [this]; simp
theorem shB_n {sw sh : Int} {xs : List Nat} (h : ¬ (xs.length : Int) = sw * sh) : shB sw sh xs = false := by unfold shB; simp [h]
theorem shB_fin {sw sh : Int} {xs : List Nat} (h1 : 1 ≤ sw ∧ sw ≤ 17) (h2 : 1 ≤ sh ∧ sh ≤ 17) (h : (xs.length : Int) = sw * sh) : shB sw sh xs = finL xs := by unfold shB; simp [h, h1.1, h1.2, h2.1, h2.2]

set_option maxHeartbeats 2000000 in
theorem l05Is_any (p : Nat) (sw sh : Int) (A : Option Addr) (c : Nat) (xs : List Nat) (w : World) (hA : FRd w A xs) (hn : xs.length ≤ maxLen)
    (c0 : w.cell? ⟨p, 0, none⟩ = some (.int .i64 sw)) (c1 : w.cell? ⟨p, 1, none⟩ = some (.int .i64 sh)) (c2 : w.cell? ⟨p, 2, none⟩ = some (.slice A xs.length c)) :
    Calls Try.prog 32 #[.pointer (some ⟨p, 0, none⟩)] w fun e w' => e = .returned (.bool (shB sw sh xs)) ∧ ∃ n, w' = w.drewN n := by
  by_cases h1 : 1 ≤ sw ∧ sw ≤ 17
  · by_cases h2 : 1 ≤ sh ∧ sh ≤ 17
    · obtain ⟨h1a, h1b⟩ := h1
      obtain ⟨h2a, h2b⟩ := h2
      have hm1 : 0 ≤ sw * sh := Int.mul_nonneg (by omega) (by omega)
      have hm2 : sw * sh ≤ 17 * 17 := Int.mul_le_mul h1b h2b (by omega) (by omega)
      have hw : IntKind.i64.wrap (sw * sh) = sw * sh := IntWalk.i64_in _ (by omega)
      by_cases h3 : (xs.length : Int) = sw * sh
      · have hb : ((xs.length : Int) == sw * sh) = true := by simp [h3]
        have hsh := shB_fin ⟨h1a, h1b⟩ ⟨h2a, h2b⟩ h3
        have HS := Lib.hid hsh
        clear hsh h3
        go_enter Try.func32, Try.ntmps32
        go_wp2_with fail
        go_quiet ((first | (go_at_call 33; exact Calls.quiet_of_same (in_yes _ _ _ _ (by omega))) | (go_at_call 62; exact Calls.quiet_of (l02Finite_any _ _ _ _ hA hn))))
        go_wp2
        go_ret
        exact ⟨ret_bool HS.out.symm, _, rfl⟩
      · have hb : ((xs.length : Int) == sw * sh) = false := by simp [h3]
        have HS := Lib.hid (shB_n (sw := sw) (sh := sh) h3)
        clear h3
        go_enter Try.func32, Try.ntmps32
        go_wp2_with fail
        go_quiet ((first | (go_at_call 33; exact Calls.quiet_of_same (in_yes _ _ _ _ (by omega))) | (go_at_call 62; exact Calls.quiet_of (l02Finite_any _ _ _ _ hA hn))))
        go_wp2
        go_ret
        exact ⟨ret_bool HS.out.symm, _, rfl⟩
    · obtain ⟨h1a, h1b⟩ := h1
      have HS := Lib.hid (shB_sh (sw := sw) (xs := xs) (show sh < 1 ∨ 17 < sh by omega))
      go_enter Try.func32, Try.ntmps32
      go_wp2_with fail
      go_quiet ((first | (go_at_call 33; exact Calls.quiet_of_same (in_yes _ _ _ _ (by omega))) | (go_at_call 33; exact Calls.quiet_of_same (in_no _ _ _ _ (by omega)))))
      go_wp2
      go_ret
      exact ⟨ret_bool HS.out.symm, _, rfl⟩
  · have HS := Lib.hid (shB_sw (sh := sh) (xs := xs) (show sw < 1 ∨ 17 < sw by omega))
    go_enter Try.func32, Try.ntmps32
    go_wp2_with fail
    go_quiet ((first | (go_at_call 33; exact Calls.quiet_of_same (in_no _ _ _ _ (by omega)))))
    go_wp2
    go_ret
    exact ⟨ret_bool HS.out.symm, _, rfl⟩


set_option maxHeartbeats 1000000 in
theorem implValid_any (sw sh : Int) (A : Option Addr) (c : Nat) (xs : List Nat) (w : World) (hA : FRd w A xs) (hn : xs.length ≤ maxLen) :
    Calls Try.prog 36 #[shv sw sh A xs.length c] w fun e w' => e = .returned (.bool (shB sw sh xs)) ∧ Below w.heap.size w w' := by
  by_cases h1 : 1 ≤ sw ∧ sw ≤ 17
  · by_cases h2 : 1 ≤ sh ∧ sh ≤ 17
    · obtain ⟨h1a, h1b⟩ := h1
      obtain ⟨h2a, h2b⟩ := h2
      have hm1 : 0 ≤ sw * sh := Int.mul_nonneg (by omega) (by omega)
      have hm2 : sw * sh ≤ 17 * 17 := Int.mul_le_mul h1b h2b (by omega) (by omega)
      by_cases h3 : (xs.length : Int) = sw * sh
      · have hb : ((xs.length : Int) == sw * sh) = true := by simp [h3]
        have hsh := shB_fin ⟨h1a, h1b⟩ ⟨h2a, h2b⟩ h3
        have HS := Lib.hid hsh
        clear hsh h3
        go_enter Try.func36, Try.ntmps36
        go_wp2_with (first | (go_at_call 37; refine (side_yes _ _ (by omega)).mono ?_; rintro e w' ⟨rfl, rfl⟩) | (go_at_call 63; refine (areFinite_any _ _ _ _ (Rd.below hA (below_alloc _ _)) hn).mono ?_; rintro e w' ⟨rfl, n', rfl⟩))
        go_ret
        exact ⟨ret_bool HS.out.symm, below_drewN (below_alloc _ _) _⟩
      · have hb : ((xs.length : Int) == sw * sh) = false := by simp [h3]
        have HS := Lib.hid (shB_n (sw := sw) (sh := sh) h3)
        clear h3
        go_enter Try.func36, Try.ntmps36
        go_wp2_with (first | (go_at_call 37; refine (side_yes _ _ (by omega)).mono ?_; rintro e w' ⟨rfl, rfl⟩))
        go_ret
        exact ⟨ret_bool HS.out.symm, below_alloc _ _⟩
    · obtain ⟨h1a, h1b⟩ := h1
      have HS := Lib.hid (shB_sh (sw := sw) (xs := xs) (show sh < 1 ∨ 17 < sh by omega))
      go_enter Try.func36, Try.ntmps36
      go_wp2_with (first | (go_at_call 37; refine (side_yes _ _ (by omega)).mono ?_; rintro e w' ⟨rfl, rfl⟩) | (go_at_call 37; refine (side_no _ _ (by omega)).mono ?_; rintro e w' ⟨rfl, rfl⟩))
      go_ret
      exact ⟨ret_bool HS.out.symm, below_alloc _ _⟩
  · have HS := Lib.hid (shB_sw (sh := sh) (xs := xs) (show sw < 1 ∨ 17 < sw by omega))
    go_enter Try.func36, Try.ntmps36
    go_wp2_with (first | (go_at_call 37; refine (side_no _ _ (by omega)).mono ?_; rintro e w' ⟨rfl, rfl⟩))
    go_ret
    exact ⟨ret_bool HS.out.symm, below_alloc _ _⟩
end Go.Proofs.Ytcdipgkdbannmaa
