/- Numbers that are finite, lists of them: both sides. -/
import Derived.Test.YtamgekijihpgkaaEqF
namespace Go.Proofs.Ytamgekijihpgkaa
open Go.RowKit

def finB (X : Nat) : Bool := ford .f32 (fop .sub .f32 X X) (cn .f32 0) == some .eq
/-- All of a list are finite. -/
def finL (xs : List Nat) : Bool := xs.all fun x => finB (cn .f32 x)

theorem isFinite_any (x : Nat) (w : World) : Calls Try.prog 39 #[.float .f32 x] w fun e w' => e = .returned (.bool (finB (cn .f32 x))) ∧ ∃ n, w' = w.drewN n := by
  go_enter Try.func39, Try.ntmps39
  go_wp2
  go_ret
  exact ⟨ret_bool rfl, _, rfl⟩

theorem finL_bad {xs : List Nat} {k : Nat} (hk : k < xs.length) (h : finB (cn .f32 xs[k]) = false) : finL xs = false := by
  unfold finL
  rw [List.all_eq_false]
  exact ⟨xs[k], by simp, by simp [h]⟩
theorem finL_step {xs : List Nat} {k : Nat} (hk : k < xs.length) (h : finL (xs.take k) = true) (h' : finB (cn .f32 xs[k]) = true) : finL (xs.take (k + 1)) = true := by
  unfold finL at *
  rw [List.take_succ_eq_append_getElem hk, List.all_append, h]
  simp [h']
theorem finL_at {xs : List Nat} {k : Nat} (hk : k < xs.length) (h : finL xs = true) : finB (cn .f32 xs[k]) = true := by
  unfold finL at h
  exact List.all_eq_true.1 h _ (List.getElem_mem hk)

theorem areFin1_any (x : Nat) (w : World) : Calls Try.prog 46 #[.float .f32 x] w fun e w' => e = .returned (.bool (!finB (cn .f32 x))) ∧ ∃ n, w' = w.drewN n := by
  go_enter Try.func46, Try.ntmps46
  go_wp2_with (go_at_call 39; refine (isFinite_any _ _).mono ?_; rintro e w' ⟨rfl, n', rfl⟩)
  go_ret
  exact ⟨rfl, _, rfl⟩

theorem areFinite_any (A : Option Addr) (c : Nat) (xs : List Nat) (w : World) (hA : FRd w A xs) (hn : xs.length ≤ maxLen) :
    Calls Try.prog 21 #[.slice A xs.length c] w fun e w' => e = .returned (.bool (finL xs)) ∧ ∃ n, w' = w.drewN n := by
  unfold maxLen at hn
  go_enter Try.func21, Try.ntmps21
  go_wp2_with fail
  go_in
  go_wp2_with fail
  go_in
  go_wp2_with fail
  go_loopw [8] (fun i wr => ∃ k m : Nat, k ≤ xs.length ∧ i = .int .i64 k ∧ wr = w.drewN m ∧ Hid (finL (xs.take k) = true)) (fun i _ => xs.length - (intOf i).toNat)
  case atStart => exact ⟨0, 0, Nat.zero_le _, rfl, rfl, Lib.hid rfl⟩
  case round =>
    obtain ⟨k, m, hk, rfl, rfl, HF⟩ := hrel
    by_cases hlt : k < xs.length
    · obtain ⟨b, o, rfl, hb, hc⟩ := hA.at_ hlt
      cases hf : finB (cn .f32 xs[k])
      · have HB := finL_bad hlt hf
        have HX := Lib.hid HB
        clear HB
        go_wp2_with (go_at_call 46; refine (areFin1_any _ _).mono ?_; rintro e w' ⟨rfl, n', rfl⟩)
        go_ret
        exact ⟨ret_bool HX.out.symm, _, rfl⟩
      · have HX := Lib.hid (finL_step hlt HF.out hf)
        go_wp2_with (go_at_call 46; refine (areFin1_any _ _).mono ?_; rintro e w' ⟨rfl, n', rfl⟩)
        go_roundw
        case rel => exact ⟨k + 1, _, by omega, by go_num, rfl, HX⟩
        case measure => simp [intOf]; omega
    · go_wp2
      go_ret
      obtain rfl : k = xs.length := by omega
      have h := HF.out
      rw [List.take_length] at h
      exact ⟨ret_bool h.symm, _, rfl⟩
end Go.Proofs.Ytamgekijihpgkaa
