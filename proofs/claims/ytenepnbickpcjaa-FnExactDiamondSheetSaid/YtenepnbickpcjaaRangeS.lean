/- RangeOfSheet, both sides. -/
import Derived.Test.YtenepnbickpcjaaValid
import Derived.Test.YtenepnbickpcjaaSpan
namespace Go.Proofs.Ytenepnbickpcjaa
open Go.RowKit

/-- Two numbers and a yes or no. -/
def ThreeR (w : World) (X Y : Nat) (ok : Bool) (e : Ending) (w' : World) : Prop :=
  ∃ b c, e = .returned (.tuple #[.float .f32 b, .float .f32 c, .bool ok]) ∧ cn .f32 b = X ∧ cn .f32 c = Y ∧ Below w.heap.size w w'

theorem shB_pos {sw sh : Int} {xs : List Nat} (h : shB sw sh xs = true) : 0 < xs.length ∧ xs.length ≤ 289 := by
  unfold shB at h
  simp at h
  obtain ⟨⟨⟨⟨a, b⟩, c, d⟩, e⟩, _⟩ := h
  have h1 : (1 : Int) * 1 ≤ sw * sh := Int.mul_le_mul a c (by omega) (by omega)
  have h2 : sw * sh ≤ 17 * 17 := Int.mul_le_mul b d (by omega) (by omega)
  omega

set_option maxHeartbeats 1000000 in
theorem l05Range_any (p : Nat) (A : Option Addr) (c : Nat) (xs : List Nat) (w : World) (hA : FRd w A xs) (hn : xs.length ≤ 1000) (h0 : 0 < xs.length)
    (c2 : w.cell? ⟨p, 2, none⟩ = some (.slice A xs.length c)) :
    Calls Try.prog 58 #[.pointer (some ⟨p, 0, none⟩)] w (TwoR w (lowF (cn .f32 xs[0]) (cl xs)) (highF (cn .f32 xs[0]) (cl xs))) := by
  obtain ⟨b, o, rfl, hb, hc0⟩ := hA.at_ h0
  rw [Nat.add_zero] at hc0
  have h1 : (0 : Int) < xs.length := by omega
  go_enter Try.func58, Try.ntmps58
  go_wp2_with fail
  go_loop [4, 5, 24] (fun l h i => ∃ k bl bh : Nat, k ≤ xs.length ∧ i = .int .i64 k ∧ l = .float .f32 bl ∧ h = .float .f32 bh ∧ Hid (cn .f32 bl = lowF (cn .f32 xs[0]) (cl (xs.take k))) ∧ Hid (cn .f32 bh = highF (cn .f32 xs[0]) (cl (xs.take k)))) (fun _ _ i => xs.length - (intOf i).toNat)
  case atStart => exact ⟨0, _, _, by omega, rfl, rfl, rfl, Lib.hid rfl, Lib.hid rfl⟩
  case round =>
    obtain ⟨k, bl, bh, hk, rfl, rfl, rfl, HL, HH⟩ := hrel
    by_cases hlt : k < xs.length
    · obtain ⟨b', o', hA', _, hc⟩ := hA.at_ hlt
      injection hA' with hA'
      injection hA' with e1 e2
      subst e1; subst e2
      have L1 := lowF_snoc (cn .f32 xs[0]) (cl (xs.take k)) (cn .f32 xs[k])
      have H1 := highF_snoc (cn .f32 xs[0]) (cl (xs.take k)) (cn .f32 xs[k])
      rw [← cl_succ hlt] at L1 H1
      rw [← HL.out] at L1
      rw [← HH.out] at H1
      have L2 := Lib.hid L1
      have H2 := Lib.hid H1
      clear L1 H1
      cases hl : (ford .f32 (cn .f32 xs[k]) (cn .f32 bl) == some .lt)
      all_goals
        cases hh : (ford .f32 (cn .f32 xs[k]) (cn .f32 bh) == some .gt)
        all_goals
          go_wp2
          go_round
          case rel => exact ⟨k + 1, _, _, by omega, by go_num, rfl, rfl, Lib.hid (by rw [L2.out, hl]; rfl), Lib.hid (by rw [H2.out, hh]; rfl)⟩
          case measure => simp [intOf]; omega
    · go_wp2
      go_ret2
      obtain rfl : k = xs.length := by omega
      have e1 := HL.out
      have e2 := HH.out
      rw [List.take_length] at e1 e2
      exact ⟨_, _, 0, rfl, e1, e2, rfl⟩

def rsX (sw sh : Int) (xs : List Nat) (f : Nat → List Nat → Nat) : Nat := if shB sw sh xs then f ((cl xs)[0]?.getD 0) (cl xs) else cn .f32 0
theorem cl_zero {xs : List Nat} (h : 0 < xs.length) : (cl xs)[0]?.getD 0 = cn .f32 xs[0] := by simp [cl, h]

set_option maxHeartbeats 1000000 in
theorem specRangeS_any (sw sh : Int) (A : Option Addr) (c : Nat) (xs : List Nat) (w : World) (hA : FRd w A xs) (hn : xs.length ≤ maxLen) :
    Calls Try.prog 25 #[shv sw sh A xs.length c] w (ThreeR w (rsX sw sh xs lowF) (rsX sw sh xs highF) (shB sw sh xs)) := by
  have hA1 := Rd.below hA (below_alloc _ (.cells #[.int .i64 sw, .int .i64 sh, .slice A xs.length c] 33))
  cases hs : shB sw sh xs
  · go_enter Try.func25, Try.ntmps25
    go_wp2_with fail
    refine (l05Is_any _ sw sh A c xs _ hA1 hn (by simp) (by simp) (by simp)).mono ?_
    rintro e w1 ⟨rfl, n, rfl⟩
    rw [hs]
    go_wp2
    go_ret3
    exact ⟨_, _, rfl, by simp [rsX, hs], by simp [rsX, hs], below_drewN (below_alloc _ _) _⟩
  · obtain ⟨h0, h1⟩ := shB_pos hs
    go_enter Try.func25, Try.ntmps25
    go_wp2_with fail
    refine (l05Is_any _ sw sh A c xs _ hA1 hn (by simp) (by simp) (by simp)).mono ?_
    rintro e w1 ⟨rfl, n, rfl⟩
    rw [hs]
    go_wp2_with fail
    refine (l05Range_any _ A c xs _ (Rd.drewN hA1 n) (by omega) h0 (by show (w.alloc _).cell? _ = _; simp)).mono ?_
    rintro e w1 ⟨b, b2, n2, rfl, e1, e2, rfl⟩
    go_wp2
    go_ret3
    exact ⟨_, _, rfl, by rw [e1, rsX, hs, cl_zero h0]; rfl, by rw [e2, rsX, hs, cl_zero h0]; rfl, below_drewN (below_alloc _ _) (n + n2)⟩
set_option maxHeartbeats 1000000 in
theorem implRangeS_any (sw sh : Int) (A : Option Addr) (c : Nat) (xs : List Nat) (w : World) (hA : FRd w A xs) (hn : xs.length ≤ maxLen) :
    Calls Try.prog 26 #[shv sw sh A xs.length c] w (ThreeR w (rsX sw sh xs lowF) (rsX sw sh xs highF) (shB sw sh xs)) := by
  have hA1 := Rd.below hA (below_alloc _ (.cells #[.int .i64 sw, .int .i64 sh, .slice A xs.length c] 33))
  cases hs : shB sw sh xs
  · go_enter Try.func26, Try.ntmps26
    go_wp2_with fail
    refine (implValid_any sw sh A c xs _ hA1 hn).mono ?_
    rintro e w1 ⟨rfl, k1⟩
    rw [hs]
    have K1 := Below.step (below_alloc _ _) k1
    clear k1
    go_wp2
    go_ret3
    exact ⟨_, _, rfl, by simp [rsX, hs], by simp [rsX, hs], K1⟩
  · obtain ⟨h0, h1⟩ := shB_pos hs
    go_enter Try.func26, Try.ntmps26
    go_wp2_with fail
    refine (implValid_any sw sh A c xs _ hA1 hn).mono ?_
    rintro e w1 ⟨rfl, k1⟩
    rw [hs]
    have c2 : w1.cell? ⟨w.heap.size, 2, none⟩ = some (.slice A xs.length c) := (k1.cell (by simp)).trans (by simp)
    have hA2 := Rd.below hA1 k1
    have K1 := Below.step (below_alloc _ _) k1
    clear k1
    go_wp2_with fail
    refine (span_any A c xs _ hA2 (by omega) h0).mono ?_
    rintro e w2 ⟨b, b2, n2, rfl, e1, e2, rfl⟩
    go_wp2
    go_ret3
    exact ⟨_, _, rfl, by rw [e1, rsX, hs, cl_zero h0]; rfl, by rw [e2, rsX, hs, cl_zero h0]; rfl, below_drewN K1 _⟩
end Go.Proofs.Ytenepnbickpcjaa
