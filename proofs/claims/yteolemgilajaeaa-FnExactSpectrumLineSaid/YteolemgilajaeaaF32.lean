/- Slices of float32: copied, marked, held. -/
import Derived.Test.YteolemgilajaeaaEqF
namespace Go.Proofs.Yteolemgilajaeaa
open Go.RowKit


/-- What the marks k, k+1, .. are. -/
def fm (k : Nat) : Nat := floatOfInt .f32 (k : Int)
def fmarks (k n : Nat) : List Nat := (List.range n).map fun i => fm (k + i)
theorem fmarks_len (k n : Nat) : (fmarks k n).length = n := by simp [fmarks]
theorem fmarks_succ (k n : Nat) : fmarks k (n + 1) = fmarks k n ++ [fm (k + n)] := by simp [fmarks, List.range_succ]
theorem fmarks_at {k n i : Nat} (h : i < n) : (fmarks k n)[i]'(by rw [fmarks_len]; exact h) = fm (k + i) := by simp [fmarks]
theorem fm_num (k : Nat) : isN .f32 (fm k) = false := by
  unfold fm floatOfInt FloatKind.nearest FloatKind.encode
  exact isN_write .f32 _ rfl
theorem fm_self (k : Nat) : ford .f32 (cn .f32 (fm k)) (cn .f32 (fm k)) = some .eq := by rw [ford_cn]; exact ford_self (fm_num k)

theorem markF32_any (A : Option Addr) (n c : Nat) (q : Int) (k : Nat) (hq : q = k) (w : World) (hw : WrA w A n) (hb : ∀ b, InA A b → b < w.heap.size) (h1 : k ≤ 4611686018427387904 / 4) (hn : n ≤ 4611686018427387904 / 4) :
    Calls Try.prog 16 #[.slice A n c, .int .i64 q] w fun e w' => e = .returned (.int .i64 (k + n : Nat)) ∧ Keep (InA A) w w' ∧ FRd w' A (fmarks k n) := by
  subst hq
  go_enter Try.func16, Try.ntmps16
  go_wp2
  go_loopw [1, 5] (fun q i wr => ∃ j : Nat, j ≤ n ∧ i = .int .i64 j ∧ q = .int .i64 (k + j : Nat) ∧ Keep (InA A) w wr ∧ WrA wr A n ∧ FRd wr A (fmarks k j)) (fun _ i _ => n - (intOf i).toNat)
  case atStart => exact ⟨0, Nat.zero_le _, rfl, rfl, Keep.refl _ _, hw, fun i u h => by simp [fmarks] at h⟩
  case round =>
    obtain ⟨j, hj, rfl, rfl, hk, hwr, hr⟩ := hrel
    by_cases hlt : j < n
    · obtain ⟨b, o, rfl, hb2, ⟨v, hv⟩, hf⟩ := hwr j hlt
      have hr' := Rd.put (j := j) (u := fv (fm (k + j))) hr (by simp [fmarks_len]) hb2 ⟨v, hv⟩
      go_wp2
      go_roundw
      case rel => exact ⟨j + 1, by omega, by go_num, by go_num, hk.setCell (.inl ⟨o, rfl⟩) _, hwr.set _ _, by unfold FRd; rw [fmarks_succ, List.map_append]; exact hr'⟩
      case measure => simp [intOf]; omega
    · go_wp2
      go_ret
      obtain rfl : j = n := by omega
      exact ⟨rfl, hk, hr⟩

theorem heldF32_ok (A : Option Addr) (n c : Nat) (q : Int) (k : Nat) (hq : q = k) (w : World) (hr : FRd w A (fmarks k n)) (h1 : k ≤ 4611686018427387904 / 4) (hn : n ≤ 4611686018427387904 / 4) :
    Calls Try.prog 17 #[.slice A n c, .int .i64 q] w fun e w' => e = .returned (.int .i64 (k + n : Nat)) ∧ w' = w := by
  subst hq
  go_enter Try.func17, Try.ntmps17
  go_wp2
  go_loop [1, 5] (fun q i => ∃ j : Nat, j ≤ n ∧ i = .int .i64 j ∧ q = .int .i64 (k + j : Nat)) (fun _ i => n - (intOf i).toNat)
  case atStart => exact ⟨0, Nat.zero_le _, rfl, rfl⟩
  case round =>
    obtain ⟨j, hj, rfl, rfl⟩ := hrel
    by_cases hlt : j < n
    · obtain ⟨b, o, rfl, hb, hc⟩ := hr.at_ (k := j) (by rw [fmarks_len]; exact hlt)
      rw [fmarks_at hlt] at hc
      have hs := fm_self (k + j)
      unfold fm at hc hs
      push_cast at hc hs
      go_wp2
      go_round
      case rel => exact ⟨j + 1, by omega, by go_num, by go_num⟩
      case measure => simp [intOf]; omega
    · go_wp2
      go_ret
      obtain rfl : j = n := by omega
      exact ⟨rfl, rfl⟩
end Go.Proofs.Yteolemgilajaeaa
