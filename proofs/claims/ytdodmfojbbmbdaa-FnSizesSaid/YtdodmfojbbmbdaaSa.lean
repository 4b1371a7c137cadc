/- The gap of two numbers. -/
import Derived.Test.YtdodmfojbbmbdaaEr
import Derived.Test.YtdodmfojbbmbdaaShA
namespace Go.Proofs.Ytdodmfojbbmbdaa
open Go.RowKit

theorem gapF_lt {a b : Nat} (h : (ford .f64 (cn .f64 a) (cn .f64 b) == some .lt) = true) : gapF (cn .f64 a) (cn .f64 b) = fop .sub .f64 b a := by
  unfold gapF; rw [h, if_pos rfl, fop_cn]
theorem gapF_ge {a b : Nat} (h : (ford .f64 (cn .f64 a) (cn .f64 b) == some .lt) = false) : gapF (cn .f64 a) (cn .f64 b) = fop .sub .f64 a b := by
  unfold gapF; rw [h, if_neg (by decide), fop_cn]
theorem b10Gap_any (a b : Nat) (w : World) : Calls Try.prog 10 #[.float .f64 a, .float .f64 b] w fun e w' => ∃ r, e = .returned (.float .f64 r) ∧ cn .f64 r = gapF (cn .f64 a) (cn .f64 b) ∧ ∃ n, w' = w.drewN n := by
  cases h : (ford .f64 (cn .f64 a) (cn .f64 b) == some .lt)
  · have HG := Lib.hid (gapF_ge h)
    go_enter Try.func10, Try.ntmps10
    go_wp2
    go_ret
    exact ⟨_, rfl, by rw [cn_fres, HG.out, fop_cn], _, rfl⟩
  · have HG := Lib.hid (gapF_lt h)
    go_enter Try.func10, Try.ntmps10
    go_wp2
    go_ret
    exact ⟨_, rfl, by rw [cn_fres, HG.out, fop_cn], _, rfl⟩
/-- Equal maps. -/
def eqS (j n k : Nat) : SmV := ⟨q8 ((j : Int) + 1), 0, floatOfInt .f32 (k : Int), 0, false, uN n⟩
def eqL (j n i : Nat) : List SmV := (List.range i).map (eqS j n)
theorem eqL_succ (j n i : Nat) : eqL j n (i + 1) = eqL j n i ++ [eqS j n i] := by simp [eqL, List.range_succ]
theorem eqL_len (j n i : Nat) : (eqL j n i).length = i := by simp [eqL]
theorem x_turn : ∀ j, j < 6 → (turnB (q8 ((j : Nat) + 1 : Int)) 0 && partB (q8 ((j : Nat) + 1 : Int)) && !(ford .f32 (cn .f32 (q8 ((j : Nat) + 1 : Int))) (cn .f32 0) == some .eq)) = true := by decide +kernel
theorem x_part : ∀ k, k < 6 → partB (floatOfInt .f32 ((k : Nat) : Int)) = true := by decide +kernel
theorem x_zero : partB 0 = true := by decide +kernel
theorem eqS_ok {j n k : Nat} (hj : j < 6) (h2 : 2 ≤ n) (h5 : n ≤ 5) (hk : k < 6) : vsB (eqS j n k) = true ∧ SmT (eqS j n k) := by
  have h := x_turn j hj
  simp only [Bool.and_eq_true, Bool.not_eq_true'] at h
  have hs := j_share n (by omega) (by omega)
  rw [Bool.and_eq_true] at hs
  have hp := x_part k hk
  have z := x_zero
  unfold eqS
  generalize uN n = u at *
  generalize q8 ((j : Int) + 1) = a at *
  generalize floatOfInt .f32 (k : Int) = b at *
  constructor
  · unfold vsB
    dsimp only
    rw [h.1.1, h.1.2, z, hp, hs.2]
    decide
  · exact turn_smT h.1.1 h.2
theorem eqL_smL {j n : Nat} (hj : j < 6) (h2 : 2 ≤ n) (h5 : n ≤ 5) : SmL (eqL j n n) (uN n) := by
  have hs := j_share n (by omega) (by omega)
  rw [Bool.and_eq_true] at hs
  refine ⟨by rw [eqL_len]; omega, by rw [eqL_len]; exact h5, fun S hS => ?_, by rw [eqL_len]; exact hs.1⟩
  unfold eqL at hS
  obtain ⟨k, hk, rfl⟩ := List.mem_map.1 hS
  exact ⟨(eqS_ok hj h2 h5 (by have := List.mem_range.1 hk; omega)).1, rfl⟩
theorem eqL_smT {j n : Nat} (hj : j < 6) (h2 : 2 ≤ n) (h5 : n ≤ 5) : ∀ S ∈ eqL j n n, SmT S := fun S hS => by
  unfold eqL at hS
  obtain ⟨k, hk, rfl⟩ := List.mem_map.1 hS
  exact (eqS_ok hj h2 h5 (by have := List.mem_range.1 hk; omega)).2
theorem lgs_rep {Ss : List SmV} {L n : Nat} (hl : Ss.length = n) (h : ∀ S ∈ Ss, logF (lgV S.tr S.ti) = L) : List.replicate n L = lgs Ss := by
  unfold lgs
  rw [List.map_congr_left h, List.map_const', hl]
theorem eqS_parts (j n k : Nat) : (eqS j n k).tr = q8 ((j : Int) + 1) ∧ (eqS j n k).ti = 0 := ⟨rfl, rfl⟩
theorem eqL_lgs (j n : Nat) : List.replicate n (eL1 j) = lgs (eqL j n n) := by
  refine lgs_rep (eqL_len j n n) (fun S hS => ?_)
  unfold eqL at hS
  obtain ⟨k, _, rfl⟩ := List.mem_map.1 hS
  obtain ⟨e1, e2⟩ := eqS_parts j n k
  rw [e1, e2]
  unfold eL1
  with_reducible rfl
/-- The other list. -/
def othS (S T : SmV) : SmV := ⟨T.tr, T.ti, T.sr, T.si, S.fl, T.sh⟩
def othL (Ss : List SmV) (i : Nat) : List SmV := (List.range i).map fun k => othS (Ss.getD k ⟨0, 0, 0, 0, false, 0⟩) (Ss.getD (Ss.length - 1 - k) ⟨0, 0, 0, 0, false, 0⟩)
theorem othL_succ (Ss : List SmV) (i : Nat) : othL Ss (i + 1) = othL Ss i ++ [othS (Ss.getD i ⟨0, 0, 0, 0, false, 0⟩) (Ss.getD (Ss.length - 1 - i) ⟨0, 0, 0, 0, false, 0⟩)] := by simp [othL, List.range_succ]
theorem othL_len (Ss : List SmV) (i : Nat) : (othL Ss i).length = i := by simp [othL]
end Go.Proofs.Ytdodmfojbbmbdaa
