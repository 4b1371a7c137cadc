/- Slices of float32: copied, compared, marked, held. -/
import Derived.Test.YtcdipgkdbannmaaSame
import Derived.Handy
import Derived.Deep.RegionHeld3
import Derived.Deep.RegionWith
import Derived.BigRegion
namespace Go.Proofs.Ytcdipgkdbannmaa
open Go.RowKit

def fv (b : Nat) : Value := .float .f32 b
/-- The slice at A reads as these numbers. -/
def FRd (w : World) (A : Option Addr) (bs : List Nat) : Prop := Rd w A (bs.map fv)
theorem FRd.at_ {w : World} {A : Option Addr} {bs : List Nat} (h : FRd w A bs) {k : Nat} (hk : k < bs.length) : ∃ b o, A = some ⟨b, o, none⟩ ∧ b < w.heap.size ∧ w.cell? ⟨b, o + k, none⟩ = some (.float .f32 bs[k]) :=
  h k (fv bs[k]) (by simp [hk])

theorem info.f32 : (Try.prog.info? 26).map (fun i => (i.zero, i.size, i.bytes)) = some (some (.float .f32 0), 1, 4) := by kernel_rfl

set_option maxHeartbeats 1000000 in
theorem eqF32_ok (A B : Option Addr) (ca cb : Nat) (xs ys : List Nat) (w : World) (hA : FRd w A xs) (hB : FRd w B ys) (hn : xs.length ≤ maxLen) (he : xs.map (cn .f32) = ys.map (cn .f32)) :
    Calls Try.prog 41 #[.slice A xs.length ca, .slice B ys.length cb] w fun e w' => e = .returned (.bool true) ∧ ∃ n, w' = w.drewN n := by
  have hl : xs.length = ys.length := by simpa using congrArg List.length he
  have hcn : ∀ k (h1 : k < xs.length) (h2 : k < ys.length), cn .f32 xs[k] = cn .f32 ys[k] := fun k h1 h2 => by
    have h := congrArg (fun l => l[k]?) he
    simpa [h1, h2] using h
  unfold maxLen at hn
  have hl1 : xs.length ≤ ys.length := by omega
  have hl2 : ys.length ≤ xs.length := by omega
  have hd : ((xs.length : Int) != ys.length) = false := by simp; omega
  have HC := Lib.hid hcn
  clear hl he hcn
  go_enter Try.func41, Try.ntmps41
  go_wp2
  go_loopw [5] (fun i wr => ∃ k m : Nat, k ≤ xs.length ∧ i = .int .i64 k ∧ wr = w.drewN m) (fun i _ => xs.length - (intOf i).toNat)
  case atStart => exact ⟨0, 0, Nat.zero_le _, rfl, rfl⟩
  case round =>
    obtain ⟨k, m, hk, rfl, rfl⟩ := hrel
    by_cases hlt : k < xs.length
    · have hlt2 : k < ys.length := by omega
      obtain ⟨b, o, rfl, hb, hc⟩ := hA.at_ hlt
      obtain ⟨b', o', rfl, hb', hd'⟩ := hB.at_ hlt2
      have HE := Lib.hid (HC.out k hlt hlt2)
      generalize xs[k] = x at hc HE
      generalize ys[k] = y at hd' HE
      go_wp2_with fail
      go_region_with (first | (go_at_call 13; refine (sameFloat_ok _ _ (by rw [cn_wres, cn_wres, HE.out]) _).mono ?_; rintro e w' ⟨rfl, n', rfl⟩))
      all_goals
        go_wp2
        go_roundw
        case rel => exact ⟨k + 1, _, by omega, by go_num, rfl⟩
        case measure => simp [intOf]; omega
    · go_wp2
      go_ret
      exact ⟨rfl, _, rfl⟩

end Go.Proofs.Ytcdipgkdbannmaa
