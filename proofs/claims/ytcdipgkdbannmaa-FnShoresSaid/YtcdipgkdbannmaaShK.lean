/- Quarters: differences, order, shares between neighbours, by the kernel. -/
import Derived.Test.YtcdipgkdbannmaaBoxT
namespace Go.Proofs.Ytcdipgkdbannmaa
open Go.RowKit

/-- A quarter of a whole number. -/
def hq (i : Int) : Nat := fop .quo .f32 (cn .f32 (floatOfInt .f32 i)) (cn .f32 1082130432)
theorem hq_fin : ∀ i : Nat, i < 33 → finB (hq ((i : Int) - 16)) = true := by decide +kernel
theorem hq_sub : ∀ i, i < 33 → ∀ j, j < 33 → fop .sub .f32 (hq ((i : Nat) - 16 : Int)) (hq ((j : Nat) - 16 : Int)) = hq ((i : Int) - j) := by decide +kernel
theorem hq_ord : ∀ i, i < 33 → ∀ j, j < 33 → (ford .f32 (hq ((i : Nat) - 16 : Int)) (hq ((j : Nat) - 16 : Int)) == some .gt) = decide (j < i) := by decide +kernel
/-- The share of the way between two neighbours. -/
def shr (a b : Int) : Nat := fop .quo .f32 (hq a) (hq b)
theorem shr_neg : ∀ b, b < 33 → ∀ a, a < b + 1 → 0 < a → shr (-(a : Nat) : Int) (-(b : Nat) : Int) = shr (a : Nat) (b : Nat) := by decide +kernel
/-- A place between x and x + 1 lies within 0 and m, nearly. -/
def ptB (x m : Nat) (r : Nat) : Bool :=
  let p := fop .add .f32 (cn .f32 (floatOfInt .f32 (x : Int))) r
  finB p && !(ford .f32 p (cn .f32 0) == some .lt) && !(ford .f64 (c64 p) (fop .add .f64 (cn .f64 (floatOfInt .f64 (m : Int))) (cn .f64 4562254508917369340)) == some .gt)
def shrB (b : Nat) : Bool := (List.range (b + 1)).all fun a => (List.range 5).all fun x => (List.range 6).all fun m => decide (m ≤ x) || ptB x m (shr (a : Nat) (b : Nat))
theorem shr_all : ∀ b, b < 33 → 0 < b → shrB b = true := by decide +kernel
theorem shr_pt {a b x m : Nat} (hb : b < 33) (h0 : 0 < b) (ha : a ≤ b) (hx : x < 5) (hm : m < 6) (hxm : x < m) : ptB x m (shr (a : Nat) (b : Nat)) = true := by
  have h := shr_all b hb h0
  unfold shrB at h
  rw [List.all_eq_true] at h
  have h1 := h a (List.mem_range.2 (by omega))
  rw [List.all_eq_true] at h1
  have h2 := h1 x (List.mem_range.2 hx)
  rw [List.all_eq_true] at h2
  have h3 := h2 m (List.mem_range.2 hm)
  rw [decide_eq_false (by omega), Bool.false_or] at h3
  exact h3
end Go.Proofs.Ytcdipgkdbannmaa
