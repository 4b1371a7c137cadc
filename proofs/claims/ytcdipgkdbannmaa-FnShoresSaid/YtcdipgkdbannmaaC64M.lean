/- Lists of complex numbers in the law: marked, held. -/
import Derived.Test.YtcdipgkdbannmaaC64
namespace Go.Proofs.Ytcdipgkdbannmaa
open Go.RowKit

def cmarks (k n : Nat) : List (Nat × Nat) := (List.range n).map fun i => (mkc (k + i), one32)
theorem cmarks_len (k n : Nat) : (cmarks k n).length = n := by simp [cmarks]
theorem cmarks_succ (k n : Nat) : cmarks k (n + 1) = cmarks k n ++ [(mkc (k + n), one32)] := by simp [cmarks, List.range_succ]
theorem cmarks_at {k n i : Nat} (h : i < n) : (cmarks k n)[i]'(by rw [cmarks_len]; exact h) = (mkc (k + i), one32) := by simp [cmarks]
theorem mkc_self (k : Nat) (hk : k < 1300) : ford .f32 (cn .f32 (mkc k)) (cn .f32 (mkc k)) = some .eq := by rw [ford_cn]; exact ford_self (mkc_all k hk).2
theorem one_self : ford .f32 (cn .f32 one32) (cn .f32 one32) = some .eq := by decide +kernel
theorem markC_any (A : Option Addr) (n c : Nat) (q : Int) (k : Nat) (hq : q = k) (w : World) (hw : WrA w A n) (h1 : k + n < 1300) :
    Calls Try.prog 21 #[.slice A n c, .int .i64 q] w fun e w' => e = .returned (.int .i64 (k + n : Nat)) ∧ Keep (InA A) w w' ∧ CRd w' A (cmarks k n) := by
  subst hq
  go_enter Try.func21, Try.ntmps21
  go_wp2
  go_loopw [1, 5] (fun q i wr => ∃ j : Nat, j ≤ n ∧ i = .int .i64 j ∧ q = .int .i64 (k + j : Nat) ∧ Keep (InA A) w wr ∧ WrA wr A n ∧ CRd wr A (cmarks k j)) (fun _ i _ => n - (intOf i).toNat)
  case atStart => exact ⟨0, Nat.zero_le _, rfl, rfl, Keep.refl _ _, hw, fun i u h => by simp [cmarks] at h⟩
  case round =>
    obtain ⟨j, hj, rfl, rfl, hk, hwr, hr⟩ := hrel
    by_cases hlt : j < n
    · obtain ⟨b, o, rfl, hb2, ⟨v, hv⟩, hf⟩ := hwr j hlt
      have hr' := Rd.put (j := j) (u := cv (mkc (k + j), one32)) hr (by simp [cmarks_len]) hb2 ⟨v, hv⟩
      have hz0 : 0 ≤ (k : Int) + j := by omega
      have hz1 : (k : Int) + j < 1300 := by omega
      have hmk : mkI ((k : Int) + j) = mkc (k + j) := by unfold mkI; congr 1
      go_wp2
      go_roundw
      case rel => exact ⟨j + 1, by omega, by go_num, by go_num, hk.setCell (.inl ⟨o, rfl⟩) _, hwr.set _ _, by unfold CRd; rw [cmarks_succ, List.map_append]; exact hr'⟩
      case measure => simp [intOf]; omega
    · go_wp2
      go_ret
      obtain rfl : j = n := by omega
      exact ⟨rfl, hk, hr⟩
set_option maxRecDepth 100000 in
theorem heldC_ok (A : Option Addr) (n c : Nat) (q : Int) (k : Nat) (hq : q = k) (w : World) (hr : CRd w A (cmarks k n)) (h1 : k + n < 1300) :
    Calls Try.prog 22 #[.slice A n c, .int .i64 q] w fun e w' => e = .returned (.int .i64 (k + n : Nat)) ∧ w' = w := by
  subst hq
  go_enter Try.func22, Try.ntmps22
  go_wp2
  go_loop [1, 5] (fun q i => ∃ j : Nat, j ≤ n ∧ i = .int .i64 j ∧ q = .int .i64 (k + j : Nat)) (fun _ i => n - (intOf i).toNat)
  case atStart => exact ⟨0, Nat.zero_le _, rfl, rfl⟩
  case round =>
    obtain ⟨j, hj, rfl, rfl⟩ := hrel
    by_cases hlt : j < n
    · obtain ⟨b, o, rfl, hb, hc⟩ := hr.at_ (k := j) (by rw [cmarks_len]; exact hlt)
      rw [cmarks_at hlt] at hc
      have hz0 : 0 ≤ (k : Int) + j := by omega
      have hz1 : (k : Int) + j < 1300 := by omega
      have hmk : mkI ((k : Int) + j) = mkc (k + j) := by unfold mkI; congr 1
      have hs := mkc_self (k + j) (by omega)
      have h1 := one_self
      go_wp2
      go_round
      case rel => exact ⟨j + 1, by omega, by go_num, by go_num⟩
      case measure => simp [intOf]; omega
    · go_wp2
      go_ret
      obtain rfl : j = n := by omega
      exact ⟨rfl, rfl⟩
end Go.Proofs.Ytcdipgkdbannmaa
