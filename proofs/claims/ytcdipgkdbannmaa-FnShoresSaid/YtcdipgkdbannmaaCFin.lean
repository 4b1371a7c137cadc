/- Complex numbers that are finite, lists of them: both sides. -/
import Derived.Test.YtcdipgkdbannmaaCoastB
namespace Go.Proofs.Ytcdipgkdbannmaa
open Go.RowKit

def finC (p : Nat × Nat) : Bool := finB (cn .f32 p.1) && finB (cn .f32 p.2)
def finCL (P : List (Nat × Nat)) : Bool := P.all finC
theorem finCL_cp (P Q : List (Nat × Nat)) (h : cp P = cp Q) : finCL P = finCL Q := by
  have e : ∀ R : List (Nat × Nat), finCL R = (cp R).all fun p => finB p.1 && finB p.2 := fun R => by
    unfold finCL cp finC
    rw [List.all_map]
    rfl
  rw [e, e, h]
theorem l01CFinite_any (a b : Nat) (w : World) : Calls Try.prog 45 #[.complex .f32 a b] w fun e w' => e = .returned (.bool (finC (a, b))) ∧ ∃ n, w' = w.drewN n := by
  cases hf : finB (cn .f32 a)
  · go_enter Try.func45, Try.ntmps45
    go_wp2_with (go_at_call 42; refine (l01Finite_any _ _).mono ?_; rintro e w' ⟨rfl, n', rfl⟩; rw [hf])
    go_ret
    exact ⟨ret_bool (by unfold finC; rw [hf]; rfl), _, rfl⟩
  · go_enter Try.func45, Try.ntmps45
    go_wp2_with (go_at_call 42; refine (l01Finite_any _ _).mono ?_; rintro e w' ⟨rfl, n', rfl⟩; try rw [hf])
    go_ret
    exact ⟨ret_bool (by unfold finC; rw [hf]; rfl), _, rfl⟩
theorem isFinC_any (a b : Nat) (w : World) : Calls Try.prog 67 #[.complex .f32 a b] w fun e w' => e = .returned (.bool (finC (a, b))) ∧ ∃ n, w' = w.drewN n := by
  cases hf : finB (cn .f32 a)
  · go_enter Try.func67, Try.ntmps67
    go_wp2_with (go_at_call 51; refine (isFinite_any _ _).mono ?_; rintro e w' ⟨rfl, n', rfl⟩; rw [hf])
    go_ret
    exact ⟨ret_bool (by unfold finC; rw [hf]; rfl), _, rfl⟩
  · go_enter Try.func67, Try.ntmps67
    go_wp2_with (go_at_call 51; refine (isFinite_any _ _).mono ?_; rintro e w' ⟨rfl, n', rfl⟩; try rw [hf])
    go_ret
    exact ⟨ret_bool (by unfold finC; rw [hf]; rfl), _, rfl⟩
theorem areFinC1_any (p : Nat × Nat) (w : World) : Calls Try.prog 66 #[.complex .f32 p.1 p.2] w fun e w' => e = .returned (.bool (!finC p)) ∧ ∃ n, w' = w.drewN n := by
  go_enter Try.func66, Try.ntmps66
  go_wp2_with (go_at_call 67; refine (isFinC_any _ _ _).mono ?_; rintro e w' ⟨rfl, n', rfl⟩)
  go_ret
  exact ⟨rfl, _, rfl⟩
theorem finCL_bad {xs : List (Nat × Nat)} {k : Nat} (hk : k < xs.length) (h : finC xs[k] = false) : finCL xs = false := by
  unfold finCL
  rw [List.all_eq_false]
  exact ⟨xs[k], by simp, by simp [h]⟩
theorem finCL_step {xs : List (Nat × Nat)} {k : Nat} (hk : k < xs.length) (h : finCL (xs.take k) = true) (h' : finC xs[k] = true) : finCL (xs.take (k + 1)) = true := by
  unfold finCL at *
  rw [List.take_succ_eq_append_getElem hk, List.all_append, h]
  simp [h']
/-- The slice at A reads as these complex numbers. -/
def CRd (w : World) (A : Option Addr) (P : List (Nat × Nat)) : Prop := Rd w A (P.map cv)
theorem CRd.at_ {w : World} {A : Option Addr} {P : List (Nat × Nat)} (h : CRd w A P) {k : Nat} (hk : k < P.length) : ∃ b o, A = some ⟨b, o, none⟩ ∧ b < w.heap.size ∧ w.cell? ⟨b, o + k, none⟩ = some (.complex .f32 P[k].1 P[k].2) :=
  h k (cv P[k]) (by simp [hk])
theorem areFinC_any (A : Option Addr) (c : Nat) (xs : List (Nat × Nat)) (w : World) (hA : CRd w A xs) (hn : xs.length ≤ maxLen) :
    Calls Try.prog 46 #[.slice A xs.length c] w fun e w' => e = .returned (.bool (finCL xs)) ∧ ∃ n, w' = w.drewN n := by
  unfold maxLen at hn
  go_enter Try.func46, Try.ntmps46
  go_wp2_with fail
  go_in
  go_wp2_with fail
  go_in
  go_wp2_with fail
  go_loopw [8] (fun i wr => ∃ k m : Nat, k ≤ xs.length ∧ i = .int .i64 k ∧ wr = w.drewN m ∧ Hid (finCL (xs.take k) = true)) (fun i _ => xs.length - (intOf i).toNat)
  case atStart => exact ⟨0, 0, Nat.zero_le _, rfl, rfl, Lib.hid rfl⟩
  case round =>
    obtain ⟨k, m, hk, rfl, rfl, HF⟩ := hrel
    by_cases hlt : k < xs.length
    · obtain ⟨b, o, rfl, hb, hc⟩ := hA.at_ hlt
      cases hf : finC xs[k]
      · have HB := finCL_bad hlt hf
        have HX := Lib.hid HB
        clear HB
        go_wp2_with (go_at_call 66; refine (areFinC1_any _ _).mono ?_; rintro e w' ⟨rfl, n', rfl⟩)
        go_ret
        exact ⟨ret_bool HX.out.symm, _, rfl⟩
      · have HX := Lib.hid (finCL_step hlt HF.out hf)
        go_wp2_with (go_at_call 66; refine (areFinC1_any _ _).mono ?_; rintro e w' ⟨rfl, n', rfl⟩)
        go_roundw
        case rel => exact ⟨k + 1, _, by omega, by go_num, rfl, HX⟩
        case measure => simp [intOf]; omega
    · go_wp2
      go_ret
      obtain rfl : k = xs.length := by omega
      have h := HF.out
      rw [List.take_length] at h
      exact ⟨ret_bool h.symm, _, rfl⟩
end Go.Proofs.Ytcdipgkdbannmaa
