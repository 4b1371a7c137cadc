/- A list of numbers that a call makes, with a yes or no. -/
import Derived.Test.YtcdademaamoboaaRange
import Derived.Test.YtcdademaamoboaaPush
namespace Go.Proofs.Ytcdademaamoboaa
open Go.RowKit

/-- A list of numbers in new memory, and a yes or no. -/
def ListR (w : World) (l : List Nat) (ok : Bool) (e : Ending) (w' : World) : Prop :=
  ∃ A c xs, e = .returned (.tuple #[.slice A xs.length c, .bool ok]) ∧ cl xs = l ∧ OwnS w.heap.size w' A (xs.map fv) ∧ Below w.heap.size w w'
theorem listR_no (w : World) (n : Nat) : ListR w [] false (.returned (.tuple #[.slice none 0 0, .bool false])) (w.drewN n) := ⟨none, 0, [], rfl, rfl, OwnS.nil _, below_drewN (Below.refl _ _) n⟩
theorem listR_none {w w' : World} (h : Below w.heap.size w w') : ListR w [] false (.returned (.tuple #[.slice none 0 0, .bool false])) w' := ⟨none, 0, [], rfl, rfl, OwnS.nil _, h⟩
theorem own_made1 (w : World) (base : Nat) (e : TypeId) (u : Value) (hb : base ≤ w.heap.size) : (w.alloc (.cells #[u] e)).ownsRow base e 1 (.slice (some ⟨w.heap.size, 0, none⟩) 1 1) 1 [u] :=
  ⟨rfl, .inr ⟨w.heap.size, 1, #[u], rfl, hb, heap_alloc_new w _, Nat.le_refl _, by decide, rfl, rfl⟩⟩
theorem finL_cl (xs : List Nat) : finL xs = (cl xs).all finB := by
  unfold finL cl
  rw [List.all_map]
  rfl

theorem l02List_yes (A : Option Addr) (c : Nat) (xs : List Nat) (w : World) (hA : FRd w A xs) (hn : xs.length ≤ maxLen) (h : finL xs = true) :
    Calls Try.prog 51 #[.slice A xs.length c] w fun e w' => e = .returned (.tuple #[.slice A xs.length c, .bool true]) ∧ ∃ n, w' = w.drewN n := by
  unfold maxLen at hn
  go_enter Try.func51, Try.ntmps51
  go_wp2_with fail
  refine (l02Finite_any A c xs _ hA (by unfold maxLen; omega)).mono ?_
  rintro e w1 ⟨rfl, n, rfl⟩
  rw [h]
  clear h
  go_wp2
  go_ret2
  exact ⟨rfl, _, rfl⟩
theorem l02List_no (A : Option Addr) (c : Nat) (xs : List Nat) (w : World) (hA : FRd w A xs) (hn : xs.length ≤ maxLen) (h : finL xs = false) :
    Calls Try.prog 51 #[.slice A xs.length c] w fun e w' => e = .returned (.tuple #[.slice none 0 0, .bool false]) ∧ ∃ n, w' = w.drewN n := by
  unfold maxLen at hn
  go_enter Try.func51, Try.ntmps51
  go_wp2_with fail
  refine (l02Finite_any A c xs _ hA (by unfold maxLen; omega)).mono ?_
  rintro e w1 ⟨rfl, n, rfl⟩
  rw [h]
  clear h
  go_wp2
  go_ret2
  exact ⟨rfl, _, rfl⟩
end Go.Proofs.Ytcdademaamoboaa
