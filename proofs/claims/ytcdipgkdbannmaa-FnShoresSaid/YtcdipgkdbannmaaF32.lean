/- Slices of float32: copied, marked, held. -/
import Derived.Test.YtcdipgkdbannmaaEqF
namespace Go.Proofs.Ytcdipgkdbannmaa
open Go.RowKit

theorem toF32_any (A : Option Addr) (c : Nat) (xs : List Nat) (w : World) (hA : FRd w A xs) (hn : xs.length ≤ 2097152) :
    Calls Try.prog 35 #[.slice A xs.length c] w fun e w' => ∃ B c', e = .returned (.slice B xs.length c') ∧ OwnS w.heap.size w' B (xs.map fv) ∧ Below w.heap.size w w' := by
  obtain ⟨i0, hi, hz0, hz1, hz2⟩ := info_parts info.f32
  go_enter Try.func35, Try.ntmps35
  go_wp2_with (first | (at_make; refine wpList_make_full _ rfl _ _ 22 rfl w.heap.size 26 i0 (.float .f32 0) 1 Try.underlying22 hi hz0 hz1 _ _ _ _ xs.length rfl rfl rfl rfl (by rw [hz2]; omega) (by unfold maxLen; omega) (Nat.le_refl _) ?_))
  intro w1 hown hgrow
  have hb1 : Below w.heap.size w w1 := (Below.refl _ _).grown hgrow (Nat.le_refl _) (fun k h => by cases h)
  have hw1 := WrA.of_own hown
  have hg1 := own_lt hown w.heap.size ⟨0, rfl⟩
  clear hown hgrow hi hz0 hz1 hz2
  go_wp2
  go_loopw [4] (fun i wr => ∃ k : Nat, k ≤ xs.length ∧ i = .int .i64 k ∧ Below w.heap.size w wr ∧ w.heap.size < wr.heap.size ∧ WrA wr (some ⟨w.heap.size, 0, none⟩) xs.length ∧ FRd wr (some ⟨w.heap.size, 0, none⟩) (xs.take k)) (fun i _ => xs.length - (intOf i).toNat)
  case atStart => exact ⟨0, Nat.zero_le _, rfl, hb1, hg1, hw1, fun i u h => by simp at h⟩
  case round =>
    obtain ⟨k, hk, rfl, hbel, hsz, hwr, hr⟩ := hrel
    by_cases hlt : k < xs.length
    · obtain ⟨b, o, rfl, hb, hc⟩ := hA.at_ hlt
      have hc' := (hbel.cell hb).trans hc
      obtain ⟨b2, o2, hB2, hb2, ⟨v2, hv2⟩, hf2⟩ := hwr k hlt
      injection hB2 with hB2
      injection hB2 with h1 h2
      subst h1; subst h2
      rw [Nat.zero_add] at hv2 hf2
      clear hc
      go_wp2
      have hr' := Rd.put (j := k) (u := fv xs[k]) hr (by simp; omega) hsz ⟨_, by rw [Nat.zero_add]; exact hv2⟩
      rw [Nat.zero_add] at hr'
      go_roundw
      case rel => exact ⟨k + 1, by omega, by go_num, hbel.setCell (Nat.le_refl _) _, by simpa [World.setCell] using hsz, hwr.set _ _, by unfold FRd; rw [List.take_succ_eq_append_getElem hlt, List.map_append]; exact hr'⟩
      case measure => simp [intOf]; omega
    · go_wp2
      go_ret
      obtain rfl : k = xs.length := by omega
      rw [List.take_length] at hr
      exact ⟨_, _, rfl, ⟨hr, by simpa using hwr, fun b ⟨o, h⟩ => by injection h with h; injection h with h; omega⟩, hbel⟩

/-- What the marks k, k+1, .. are. -/
def fm (k : Nat) : Nat := floatOfInt .f32 (k : Int)
def fmarks (k n : Nat) : List Nat := (List.range n).map fun i => fm (k + i)
theorem fmarks_len (k n : Nat) : (fmarks k n).length = n := by simp [fmarks]
theorem fmarks_succ (k n : Nat) : fmarks k (n + 1) = fmarks k n ++ [fm (k + n)] := by simp [fmarks, List.range_succ]
theorem fmarks_at {k n i : Nat} (h : i < n) : (fmarks k n)[i]'(by rw [fmarks_len]; exact h) = fm (k + i) := by simp [fmarks]
theorem fm_num (k : Nat) : isN .f32 (fm k) = false := by
  unfold fm floatOfInt FloatKind.nearest FloatKind.encode
  exact isN_write .f32 _ rfl
theorem fm_self (k : Nat) : ford .f32 (cn .f32 (fm k)) (cn .f32 (fm k)) = some .eq := by rw [ford_cn]; exact ford_self (fm_num k)

theorem markF32_any (A : Option Addr) (n c : Nat) (q : Int) (k : Nat) (hq : q = k) (w : World) (hw : WrA w A n) (hb : ∀ b, InA A b → b < w.heap.size) (h1 : k ≤ 4611686018427387904 / 4) (hn : n ≤ 4611686018427387904 / 4) :
    Calls Try.prog 48 #[.slice A n c, .int .i64 q] w fun e w' => e = .returned (.int .i64 (k + n : Nat)) ∧ Keep (InA A) w w' ∧ FRd w' A (fmarks k n) := by
  subst hq
  go_enter Try.func48, Try.ntmps48
  go_wp2
  go_loopw [1, 5] (fun q i wr => ∃ j : Nat, j ≤ n ∧ i = .int .i64 j ∧ q = .int .i64 (k + j : Nat) ∧ Keep (InA A) w wr ∧ WrA wr A n ∧ FRd wr A (fmarks k j)) (fun _ i _ => n - (intOf i).toNat)
  case atStart => exact ⟨0, Nat.zero_le _, rfl, rfl, Keep.refl _ _, hw, fun i u h => by simp [fmarks] at h⟩
  case round =>
    obtain ⟨j, hj, rfl, rfl, hk, hwr, hr⟩ := hrel
    by_cases hlt : j < n
    · obtain ⟨b, o, rfl, hb2, ⟨v, hv⟩, hf⟩ := hwr j hlt
      have hr' := Rd.put (j := j) (u := fv (fm (k + j))) hr (by simp [fmarks_len]) hb2 ⟨v, hv⟩
      go_wp2
      go_roundw
      case rel => exact ⟨j + 1, by omega, by go_num, by go_num, hk.setCell (.inl ⟨o, rfl⟩) _, hwr.set _ _, by unfold FRd; rw [fmarks_succ, List.map_append]; exact hr'⟩
      case measure => simp [intOf]; omega
    · go_wp2
      go_ret
      obtain rfl : j = n := by omega
      exact ⟨rfl, hk, hr⟩

end Go.Proofs.Ytcdipgkdbannmaa
