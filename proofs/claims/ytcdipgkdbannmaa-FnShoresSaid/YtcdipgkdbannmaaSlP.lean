/- SlopeOfPowers, both sides. -/
import Derived.Test.YtcdipgkdbannmaaSl
import Derived.Test.YtcdipgkdbannmaaLogW
import Derived.Test.YtcdipgkdbannmaaNeg
namespace Go.Proofs.Ytcdipgkdbannmaa
open Go.RowKit

theorem own_made_at (w : World) (base : Nat) (e : TypeId) (s : Nat) (hs : s = w.heap.size) (hb : base ≤ w.heap.size) : (w.alloc (.cells #[] e)).ownsRow base e 1 (.slice (some ⟨s, 0, none⟩) 0 0) 0 [] := by
  subst hs
  exact own_made0 w base e hb
theorem apart_new {a b n c n' c' : Nat} (h : a ≠ b) : Apart (.slice (some ⟨b, 0, none⟩) n c) (.slice (some ⟨a, 0, none⟩) n' c') := fun k h1 h2 => by
  simp [Value.ownBlock] at h1 h2
  omega
theorem own_drewN {w : World} {base : Nat} {e : TypeId} {size : Nat} {v : Value} {n : Nat} {xs : List Value} (h : w.ownsRow base e size v n xs) (m : Nat) : (w.drewN m).ownsRow base e size v n xs := h
/-- Two empty slices, just laid. -/
theorem two_start {G : Prop} (w : World) (e : TypeId) (n1 : Nat)
    (h : (((w.drewN n1).alloc (.cells #[] e)).alloc (.cells #[] e)).ownsRow w.heap.size e 1 (.slice (some ⟨w.heap.size, 0, none⟩) 0 0) 0 [] → (((w.drewN n1).alloc (.cells #[] e)).alloc (.cells #[] e)).ownsRow w.heap.size e 1 (.slice (some ⟨w.heap.size + 1, 0, none⟩) 0 0) 0 [] →
      Apart (.slice (some ⟨w.heap.size + 1, 0, none⟩) 0 0) (.slice (some ⟨w.heap.size, 0, none⟩) 0 0) → Below w.heap.size w (((w.drewN n1).alloc (.cells #[] e)).alloc (.cells #[] e)) → G) : G := by
  obtain ⟨W, hW⟩ : ∃ W, W = w.drewN n1 := ⟨_, rfl⟩
  have hz : W.heap.size = w.heap.size := by rw [hW]; rfl
  have hb : Below w.heap.size w W := by rw [hW]; exact below_drewN (Below.refl _ _) n1
  rw [← hW] at h
  refine h ?_ ?_ (apart_new (by omega)) ((hb.alloc (by omega) _).alloc (by rw [World.size_alloc]; omega) _)
  · exact (own_made_at W w.heap.size e w.heap.size hz.symm (by omega)).alloc _
  · exact own_made_at (W.alloc (.cells #[] e)) w.heap.size e (w.heap.size + 1) (by rw [World.size_alloc, hz]) (by rw [World.size_alloc]; omega)
/-- The whole numbers' logarithms: of 1, 2, .., n. -/
def logN (n : Nat) : List Nat := (List.range n).map fun k => logF (cn .f32 (floatOfInt .f32 ((k + 1 : Nat) : Int)))
theorem logN_succ (n : Nat) : logN (n + 1) = logN n ++ [logF (cn .f32 (floatOfInt .f32 ((n + 1 : Nat) : Int)))] := by simp [logN, List.range_succ]
theorem logN_0 : cl [] = logN 0 := by simp [logN, cl]
theorem logN_len (n : Nat) : (logN n).length = n := by simp [logN]
theorem num_pos : ∀ k, k < 64 → ford .f32 (cn .f32 (floatOfInt .f32 ((k + 1 : Nat) : Int))) (cn .f32 0) = some .gt ∧ finB (cn .f32 (floatOfInt .f32 ((k + 1 : Nat) : Int))) = true := by decide +kernel
/-- Is a number greater than 0? -/
def posB (x : Nat) : Bool := ford .f32 x (cn .f32 0) == some .gt
def posL (xs : List Nat) : Bool := (cl xs).all posB
theorem posL_bad {xs : List Nat} {k : Nat} (hk : k < xs.length) (h : posB (cn .f32 xs[k]) = false) : posL xs = false := by
  unfold posL
  rw [List.all_eq_false]
  exact ⟨cn .f32 xs[k], List.mem_map.2 ⟨xs[k], List.getElem_mem hk, rfl⟩, by simp [h]⟩
theorem posL_step {xs : List Nat} {k : Nat} (hk : k < xs.length) (h : posL (xs.take k) = true) (h' : posB (cn .f32 xs[k]) = true) : posL (xs.take (k + 1)) = true := by
  unfold posL at *
  rw [cl_succ hk, List.all_append, h]
  simp [h']
theorem fin_at {xs : List Nat} {k : Nat} (hk : k < xs.length) (h : finL xs = true) : finB (cn .f32 xs[k]) = true := finL_at hk h
def spY (xs : List Nat) : List Nat := (cl xs).map logF
theorem spY_succ {xs : List Nat} {k : Nat} (h : k < xs.length) : spY (xs.take (k + 1)) = spY (xs.take k) ++ [logF (cn .f32 xs[k])] := by
  unfold spY; rw [cl_succ h, List.map_append]; rfl
theorem spY_0 (xs : List Nat) : cl [] = spY (xs.take 0) := by simp [spY, cl]
theorem posL_0 (xs : List Nat) : posL (xs.take 0) = true := by simp [posL, cl]
def spGood (xs : List Nat) : Bool := decide (2 ≤ xs.length) && decide (xs.length ≤ 64) && finL xs && posL xs
def spV (xs : List Nat) : Nat := fneg .f32 (slS (logN xs.length) (spY xs))
def spOk (xs : List Nat) : Bool := spGood xs && finB (spV xs)
def spX (xs : List Nat) : Nat := if spGood xs then numX (spV xs) else cn .f32 0
theorem sp_bad {xs : List Nat} {w w' : World} (h : spGood xs = false) (k : Below w.heap.size w w') : NumB w (spX xs) (spOk xs) (.returned (.tuple #[.float .f32 0, .bool false])) w' :=
  ⟨0, by unfold spOk; rw [h]; rfl, by unfold spX; rw [h]; rfl, k⟩
theorem sp_short {xs : List Nat} (h : ¬ (2 ≤ xs.length ∧ xs.length ≤ 64)) : spGood xs = false := by
  unfold spGood
  by_cases h1 : 2 ≤ xs.length
  · have : ¬ xs.length ≤ 64 := by omega
    simp [this]
  · simp [h1]
theorem sp_fin {xs : List Nat} (h : finL xs = false) : spGood xs = false := by unfold spGood; simp [h]
theorem sp_pos {xs : List Nat} (h : posL xs = false) : spGood xs = false := by unfold spGood; simp [h]
theorem sp_good {xs : List Nat} (h1 : 2 ≤ xs.length) (h2 : xs.length ≤ 64) (h3 : finL xs = true) (h4 : posL xs = true) : spGood xs = true := by unfold spGood; simp [h1, h2, h3, h4]

end Go.Proofs.Ytcdipgkdbannmaa
