/- Numbers that are finite, lists of them: both sides. -/
import Derived.Test.YtdodmfojbbmbdaaEqF
namespace Go.Proofs.Ytdodmfojbbmbdaa
open Go.RowKit

def finB (X : Nat) : Bool := ford .f32 (fop .sub .f32 X X) (cn .f32 0) == some .eq
/-- All of a list are finite. -/
def finL (xs : List Nat) : Bool := xs.all fun x => finB (cn .f32 x)

theorem isFinite_any (x : Nat) (w : World) : Calls Try.prog 35 #[.float .f32 x] w fun e w' => e = .returned (.bool (finB (cn .f32 x))) ∧ ∃ n, w' = w.drewN n := by
  go_enter Try.func35, Try.ntmps35
  go_wp2
  go_ret
  exact ⟨ret_bool rfl, _, rfl⟩

theorem finL_bad {xs : List Nat} {k : Nat} (hk : k < xs.length) (h : finB (cn .f32 xs[k]) = false) : finL xs = false := by
  unfold finL
  rw [List.all_eq_false]
  exact ⟨xs[k], by simp, by simp [h]⟩
theorem finL_step {xs : List Nat} {k : Nat} (hk : k < xs.length) (h : finL (xs.take k) = true) (h' : finB (cn .f32 xs[k]) = true) : finL (xs.take (k + 1)) = true := by
  unfold finL at *
  rw [List.take_succ_eq_append_getElem hk, List.all_append, h]
  simp [h']
theorem finL_at {xs : List Nat} {k : Nat} (hk : k < xs.length) (h : finL xs = true) : finB (cn .f32 xs[k]) = true := by
  unfold finL at h
  exact List.all_eq_true.1 h _ (List.getElem_mem hk)

end Go.Proofs.Ytdodmfojbbmbdaa
