/- The lowest and the highest of a list; results with numbers. -/
import Derived.Test.YtamgekijihpgkaaFin
import Derived.Test.YtamgekijihpgkaaRows
import Derived.BigQuiet
import Derived.BigGuardPart
namespace Go.Proofs.Ytamgekijihpgkaa
open Go.RowKit

def lowF (c : Nat) (l : List Nat) : Nat := l.foldl (fun a x => if ford .f32 x a == some .lt then x else a) c
def highF (c : Nat) (l : List Nat) : Nat := l.foldl (fun a x => if ford .f32 x a == some .gt then x else a) c
def cl (xs : List Nat) : List Nat := xs.map (cn .f32)
theorem cl_len (xs : List Nat) : (cl xs).length = xs.length := by simp [cl]
theorem cl_take (xs : List Nat) (k : Nat) : cl (xs.take k) = (cl xs).take k := by simp [cl, List.map_take]
theorem cl_succ {xs : List Nat} {k : Nat} (h : k < xs.length) : cl (xs.take (k + 1)) = cl (xs.take k) ++ [cn .f32 xs[k]] := by
  rw [List.take_succ_eq_append_getElem h]; unfold cl; rw [List.map_append]; rfl
theorem lowF_snoc (c : Nat) (l : List Nat) (x : Nat) : lowF c (l ++ [x]) = if ford .f32 x (lowF c l) == some .lt then x else lowF c l := by simp [lowF]
theorem highF_snoc (c : Nat) (l : List Nat) (x : Nat) : highF c (l ++ [x]) = if ford .f32 x (highF c l) == some .gt then x else highF c l := by simp [highF]
theorem ford_irr (x : Nat) : (ford .f32 x x == some .lt) = false ∧ (ford .f32 x x == some .gt) = false := by
  cases h : isN .f32 x
  · rw [ford_self h]; exact ⟨rfl, rfl⟩
  · rw [ford_nanL _ h]; exact ⟨rfl, rfl⟩
theorem lowF_one (c : Nat) : lowF c [c] = c := by simp [lowF]
theorem highF_one (c : Nat) : highF c [c] = c := by simp [highF]

/-- A number and a yes or no; below the heap's size nothing has turned. -/
def NumB (w : World) (X : Nat) (ok : Bool) (e : Ending) (w' : World) : Prop := ∃ b, e = .returned (.tuple #[.float .f32 b, .bool ok]) ∧ cn .f32 b = X ∧ Below w.heap.size w w'

/-- A number and a yes or no, whatever was drawn. -/
def NumR (w : World) (X : Nat) (ok : Bool) (e : Ending) (w' : World) : Prop := ∃ b n, e = .returned (.tuple #[.float .f32 b, .bool ok]) ∧ cn .f32 b = X ∧ w' = w.drewN n
def FloatR (w : World) (X : Nat) (e : Ending) (w' : World) : Prop := ∃ b n, e = .returned (.float .f32 b) ∧ cn .f32 b = X ∧ w' = w.drewN n
def TwoR (w : World) (X Y : Nat) (e : Ending) (w' : World) : Prop := ∃ b c n, e = .returned (.tuple #[.float .f32 b, .float .f32 c]) ∧ cn .f32 b = X ∧ cn .f32 c = Y ∧ w' = w.drewN n
theorem ret_num {a b : Bool} {x : Nat} (h : a = b) : Ending.returned (.tuple #[.float .f32 x, .bool a]) = .returned (.tuple #[.float .f32 x, .bool b]) := by rw [h]
def numX (X : Nat) : Nat := if finB X then X else cn .f32 0
theorem ifNumber_any (x : Nat) (w : World) : Calls Try.prog 33 #[.float .f32 x] w (NumR w (numX (cn .f32 x)) (finB (cn .f32 x))) := by
  cases hf : finB (cn .f32 x)
  all_goals
    go_enter Try.func33, Try.ntmps33
    go_wp2_with (go_at_call 39; refine (isFinite_any _ _).mono ?_; rintro e w' ⟨rfl, n', rfl⟩)
    go_ret2
    exact ⟨_, _, by first | rfl | rw [hf], by simp [numX, hf], rfl⟩


theorem NumR.b {w : World} {X : Nat} {ok : Bool} {e : Ending} {w' : World} (h : NumR w X ok e w') : NumB w X ok e w' := by
  obtain ⟨b, n, rfl, h, rfl⟩ := h
  exact ⟨b, rfl, h, below_drewN (Below.refl _ _) n⟩
end Go.Proofs.Ytamgekijihpgkaa
