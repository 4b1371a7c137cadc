/- A contour lies between neighbours, nearly. Plain. -/
import Derived.Test.YtcdipgkdbannmaaShK
import Derived.Test.YtcdipgkdbannmaaShL
namespace Go.Proofs.Ytcdipgkdbannmaa
open Go.RowKit

/-- A whole place within 0 and m. -/
def whB (y m : Nat) : Bool :=
  let p := cn .f32 (floatOfInt .f32 (y : Int))
  finB p && !(ford .f32 p (cn .f32 0) == some .lt) && !(ford .f64 (c64 p) (fop .add .f64 (cn .f64 (floatOfInt .f64 (m : Int))) (cn .f64 4562254508917369340)) == some .gt)
theorem wh_ok : ∀ m, m < 6 → ∀ y, y < m + 1 → whB y m = true := by decide +kernel
/-- A part of a point within 0 and m. -/
def inB (p m : Nat) : Bool := finB p && !(ford .f32 p (cn .f32 0) == some .lt) && !(ford .f64 (c64 p) (fop .add .f64 (cn .f64 (floatOfInt .f64 (m : Int))) (cn .f64 4562254508917369340)) == some .gt)
theorem share_ok {i k t x m : Nat} (hi : i < 33) (hk : k < 33) (ht : t < 33) (hx : x < 5) (hm : m < 6) (hxm : x < m) (hd : ¬ decide (t < i) = decide (t < k)) :
    inB (fop .add .f32 (cn .f32 (floatOfInt .f32 (x : Int))) (fop .quo .f32 (fop .sub .f32 (hq ((t : Nat) - 16 : Int)) (hq ((i : Nat) - 16 : Int))) (fop .sub .f32 (hq ((k : Nat) - 16 : Int)) (hq ((i : Nat) - 16 : Int))))) m = true := by
  rw [hq_sub t ht i hi, hq_sub k hk i hi]
  show ptB x m (shr ((t : Int) - i) ((k : Int) - i)) = true
  by_cases h1 : t < i
  · by_cases h2 : t < k
    · rw [decide_eq_true h1, decide_eq_true h2] at hd; exact absurd rfl hd
    · have e1 : (t : Int) - i = -((i - t : Nat) : Int) := by omega
      have e2 : (k : Int) - i = -((i - k : Nat) : Int) := by omega
      rw [e1, e2, shr_neg (i - k) (by omega) (i - t) (by omega) (by omega)]
      exact shr_pt (by omega) (by omega) (by omega) hx hm hxm
  · by_cases h2 : t < k
    · have e1 : (t : Int) - i = ((t - i : Nat) : Int) := by omega
      have e2 : (k : Int) - i = ((k - i : Nat) : Int) := by omega
      rw [e1, e2]
      exact shr_pt (by omega) (by omega) (by omega) hx hm hxm
    · rw [decide_eq_false h1, decide_eq_false h2] at hd; exact absurd rfl hd
/-- Every point of a contour of a drawn sheet. -/
theorem cont_ok {l : List Nat} {W H t : Nat} (hW1 : 1 ≤ W) (hW : W ≤ 6) (hH1 : 1 ≤ H) (hH : H ≤ 6) (ht : t < 33) (hl : l.length = W * H) (hv : ∀ x ∈ l, ∃ i : Nat, i < 33 ∧ x = hq ((i : Int) - 16)) :
    ∀ p ∈ coL l W (hq ((t : Int) - 16)) (visR W 1 (H * W)) (visC W H 1 (H * W)), inB p.1 (W - 1) = true ∧ inB p.2 (H - 1) = true := by
  have hN : H * W = W * H := Nat.mul_comm _ _
  have hat : ∀ j, j < W * H → ∃ i : Nat, i < 33 ∧ l.getD j 0 = hq ((i : Int) - 16) := fun j hj => by
    have hj' : j < l.length := by omega
    obtain ⟨i, hi, e⟩ := hv l[j] (List.getElem_mem hj')
    exact ⟨i, hi, by rw [List.getD_eq_getElem?_getD, List.getElem?_eq_getElem hj']; exact e⟩
  have step : ∀ (d : Bool) (q p : Nat × Nat), q.1 < W * H → q.2 < W * H → p ∈ coP l W (hq ((t : Int) - 16)) d q → (d = false → q.1 % W + 1 < W) → (d = true → q.1 / W + 1 < H) → inB p.1 (W - 1) = true ∧ inB p.2 (H - 1) = true := by
    intro d q p h1 h2 hp hf htr
    obtain ⟨i, hi, ei⟩ := hat _ h1
    obtain ⟨k, hk, ek⟩ := hat _ h2
    have hne : ¬ decide (t < i) = decide (t < k) := fun e => by
      have : coP l W (hq ((t : Int) - 16)) d q = [] := (coP_nil _ _ _ _ _).2 (by
        unfold ovB
        rw [ei, ek, hq_ord i hi t ht, hq_ord k hk t ht, e])
      rw [this] at hp
      cases hp
    have hmod : q.1 % W < W := Nat.mod_lt _ hW1
    have hdiv : q.1 / W < H := by rw [Nat.div_lt_iff_lt_mul hW1]; omega
    unfold coP at hp
    split at hp
    · cases hp
    · dsimp only at hp
      rw [ei, ek] at hp
      cases d
      · have h5 := hf rfl
        rw [if_neg (by decide)] at hp
        rw [List.mem_singleton.1 hp]
        exact ⟨share_ok hi hk ht (by omega) (by omega) (by omega) hne, wh_ok (H - 1) (by omega) (q.1 / W) (by omega)⟩
      · have h5 := htr rfl
        rw [if_pos rfl] at hp
        rw [List.mem_singleton.1 hp]
        exact ⟨wh_ok (W - 1) (by omega) (q.1 % W) (by omega), share_ok hi hk ht (by omega) (by omega) (by omega) hne⟩
  intro p hp
  unfold coL at hp
  rcases List.mem_append.1 hp with h1 | h1
  · obtain ⟨q, hq1, h2⟩ := List.mem_flatMap.1 h1
    obtain ⟨a, b, c⟩ := visR_mem.1 hq1
    refine step false q p (by omega) ?_ h2 (fun _ => b) (fun h => by cases h)
    rw [c]
    have hd := Nat.div_add_mod q.1 W
    have hlt : q.1 / W < H := by rw [Nat.div_lt_iff_lt_mul hW1]; omega
    have h3 : W * (q.1 / W + 1) ≤ W * H := Nat.mul_le_mul_left _ hlt
    rw [Nat.mul_add, Nat.mul_one] at h3
    omega
  · obtain ⟨q, hq1, h2⟩ := List.mem_flatMap.1 h1
    obtain ⟨a, b, c⟩ := visC_mem.1 hq1
    refine step true q p (by omega) ?_ h2 (fun h => by cases h) (fun _ => b)
    rw [c]
    have hd := Nat.div_add_mod q.1 W
    have hm := Nat.mod_lt q.1 hW1
    have h3 : W * (q.1 / W + 1 + 1) ≤ W * H := Nat.mul_le_mul_left _ b
    rw [Nat.mul_add, Nat.mul_add, Nat.mul_one] at h3
    omega
end Go.Proofs.Ytcdipgkdbannmaa
