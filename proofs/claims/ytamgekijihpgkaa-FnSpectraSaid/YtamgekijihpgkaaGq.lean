/- The exponential's series as a function of rational numbers. Plain: nothing of the dump. -/
import Derived.Test.YtamgekijihpgkaaVal
namespace Go.Proofs.Ytamgekijihpgkaa

/-- The series, its squares. -/
def gK (j : Nat) : Rat := ((12 - (j : Int) : Int) : Rat)
def gP (t : Rat) : Nat → Rat
  | 0 => 1
  | j + 1 => 1 + t * gP t j / gK j
def gS (p : Rat) : Nat → Rat
  | 0 => p
  | j + 1 => gS p j * gS p j
def gE (x : Rat) : Rat := gS (gP (x / 256) 12) 8
theorem gK_ge {j : Nat} (h : j < 12) : 1 ≤ gK j := by
  unfold gK
  have h1 : (1 : Int) ≤ 12 - (j : Int) := by omega
  exact Rat.intCast_le_intCast.2 h1
/-- A number divided by one that is at least 1. -/
theorem div_sm {a k e : Rat} (hk : 1 ≤ k) (h1 : a ≤ e) (h2 : -e ≤ a) : a / k ≤ e ∧ -e ≤ a / k := by
  have hk0 : 0 < k := by grind
  have he : 0 ≤ e := by grind
  have e1 : k * (a / k) = a := by grind
  have h3 := Rat.mul_le_mul_of_nonneg_right hk he
  constructor
  · apply Rat.le_of_mul_le_mul_left _ hk0
    rw [e1]; grind
  · apply Rat.le_of_mul_le_mul_left _ hk0
    rw [e1]; grind
theorem div_nn {a k : Rat} (hk : 1 ≤ k) (h1 : 0 ≤ a) : 0 ≤ a / k := by
  have hk0 : 0 < k := by grind
  have e1 : k * (a / k) = a := by grind
  apply Rat.le_of_mul_le_mul_left _ hk0
  rw [e1]; grind
theorem mul_sm {a b α β : Rat} (h1 : ab a ≤ α) (h2 : ab b ≤ β) : ab (a * b) ≤ α * β := by
  rw [ab_mul]
  have a0 := ab_nonneg a
  have b0 := ab_nonneg b
  have x := Rat.mul_le_mul_of_nonneg_right h1 b0
  have y := Rat.mul_le_mul_of_nonneg_left h2 (Rat.le_trans a0 h1)
  exact Rat.le_trans x y
theorem gP_bd {t : Rat} (h0 : -1 / 8 ≤ t) (h1 : t ≤ 0) : ∀ j, j ≤ 12 → 7 / 8 ≤ gP t j ∧ gP t j ≤ 1
  | 0, _ => by unfold gP; constructor <;> grind
  | j + 1, hj => by
    obtain ⟨a, b⟩ := gP_bd h0 h1 j (by omega)
    have hk := gK_ge (j := j) (by omega)
    have m1 := Rat.mul_le_mul_of_nonneg_left b (show (0 : Rat) ≤ -t by grind)
    have m2 := Rat.mul_nonneg (show (0 : Rat) ≤ -t by grind) (show (0 : Rat) ≤ gP t j by grind)
    have d := div_nn hk m2
    obtain ⟨d1, d2⟩ := div_sm (a := t * gP t j) (e := 1 / 8) hk (by grind) (by grind)
    have e : -t * gP t j / gK j = -(t * gP t j / gK j) := by grind
    rw [e] at d
    show 7 / 8 ≤ 1 + t * gP t j / gK j ∧ 1 + t * gP t j / gK j ≤ 1
    constructor <;> grind
theorem gP_lip {t t' : Rat} (h0 : -1 / 8 ≤ t) (h : t ≤ t') (h1 : t' ≤ 0) : ∀ j, j ≤ 12 → gP t j ≤ gP t' j ∧ gP t' j - gP t j ≤ 2 * (t' - t)
  | 0, _ => by unfold gP; constructor <;> grind
  | j + 1, hj => by
    obtain ⟨a, b⟩ := gP_lip h0 h h1 j (by omega)
    obtain ⟨c1, c2⟩ := gP_bd (t := t') (by grind) h1 j (by omega)
    have hk := gK_ge (j := j) (by omega)
    obtain ⟨δ, hδ⟩ : ∃ δ, δ = gP t' j - gP t j := ⟨_, rfl⟩
    obtain ⟨D, hD⟩ : ∃ D, D = t' * gP t' j - t * gP t j := ⟨_, rfl⟩
    have hDe : D = (t' - t) * gP t' j + t * δ := by rw [hD, hδ]; grind
    have m1 := Rat.mul_le_mul_of_nonneg_left c1 (show (0 : Rat) ≤ t' - t by grind)
    have m2 := Rat.mul_le_mul_of_nonneg_left c2 (show (0 : Rat) ≤ t' - t by grind)
    have hδ0 : 0 ≤ δ := by grind
    have m3 := Rat.mul_le_mul_of_nonneg_right h0 hδ0
    have m4 := Rat.mul_nonneg (show (0 : Rat) ≤ -t by grind) hδ0
    have D0 : 0 ≤ D := by grind
    have D1 : D ≤ 2 * (t' - t) := by grind
    have d := div_nn hk D0
    obtain ⟨d1, d2⟩ := div_sm (a := D) (e := 2 * (t' - t)) hk D1 (by grind)
    have e : (1 + t' * gP t' j / gK j) - (1 + t * gP t j / gK j) = D / gK j := by rw [hD]; grind
    show 1 + t * gP t j / gK j ≤ 1 + t' * gP t' j / gK j ∧ (1 + t' * gP t' j / gK j) - (1 + t * gP t j / gK j) ≤ 2 * (t' - t)
    constructor <;> grind
theorem gS_bd {p : Rat} (h0 : 0 ≤ p) (h1 : p ≤ 1) : ∀ j, 0 ≤ gS p j ∧ gS p j ≤ 1
  | 0 => ⟨h0, h1⟩
  | j + 1 => by
    obtain ⟨a, b⟩ := gS_bd h0 h1 j
    have m := Rat.mul_le_mul_of_nonneg_left b a
    exact ⟨Rat.mul_nonneg a a, by show gS p j * gS p j ≤ 1; grind⟩
theorem gS_lip {p p' : Rat} (h0 : 0 ≤ p) (h : p ≤ p') (h1 : p' ≤ 1) : ∀ j, gS p j ≤ gS p' j ∧ gS p' j - gS p j ≤ ((2 ^ j : Nat) : Rat) * (p' - p)
  | 0 => by
    have e : ((2 ^ 0 : Nat) : Rat) = 1 := rfl
    unfold gS
    rw [e]
    constructor <;> grind
  | j + 1 => by
    obtain ⟨a, b⟩ := gS_lip h0 h h1 j
    obtain ⟨c1, c2⟩ := gS_bd h0 (by grind) j
    obtain ⟨c3, c4⟩ := gS_bd (p := p') (by grind) h1 j
    have e : ((2 ^ (j + 1) : Nat) : Rat) = ((2 ^ j : Nat) : Rat) * 2 := by rw [Nat.pow_succ, Rat.natCast_mul]; rfl
    obtain ⟨δ, hδ⟩ : ∃ δ, δ = gS p' j - gS p j := ⟨_, rfl⟩
    obtain ⟨σ, hσ⟩ : ∃ σ, σ = gS p' j + gS p j := ⟨_, rfl⟩
    have e2 : gS p' j * gS p' j - gS p j * gS p j = δ * σ := by rw [hδ, hσ]; grind
    have s2 : σ ≤ 2 := by grind
    have s0 : 0 ≤ σ := by grind
    have d0 : 0 ≤ δ := by grind
    have m1 := Rat.mul_le_mul_of_nonneg_left s2 d0
    have m2 := Rat.mul_nonneg d0 s0
    show gS p j * gS p j ≤ gS p' j * gS p' j ∧ gS p' j * gS p' j - gS p j * gS p j ≤ ((2 ^ (j + 1) : Nat) : Rat) * (p' - p)
    rw [e]
    constructor
    · grind
    · rw [e2]; grind
theorem gE_lip {x x' : Rat} (h0 : -32 ≤ x) (h : x ≤ x') (h1 : x' ≤ 0) : gE x ≤ gE x' ∧ gE x' - gE x ≤ 2 * (x' - x) := by
  obtain ⟨a, b⟩ := gP_lip (t := x / 256) (t' := x' / 256) (by grind) (by grind) (by grind) 12 (by decide)
  obtain ⟨c1, c2⟩ := gP_bd (t := x / 256) (by grind) (by grind) 12 (by decide)
  obtain ⟨c3, c4⟩ := gP_bd (t := x' / 256) (by grind) (by grind) 12 (by decide)
  obtain ⟨d, e⟩ := gS_lip (p := gP (x / 256) 12) (p' := gP (x' / 256) 12) (by grind) a c4 8
  have e8 : ((2 ^ 8 : Nat) : Rat) = 256 := rfl
  rw [e8] at e
  unfold gE
  constructor <;> grind
theorem gE_bd {x : Rat} (h0 : -32 ≤ x) (h1 : x ≤ 0) : 0 ≤ gE x ∧ gE x ≤ 1 := by
  obtain ⟨c1, c2⟩ := gP_bd (t := x / 256) (by grind) (by grind) 12 (by decide)
  exact gS_bd (by grind) c2 8
end Go.Proofs.Ytamgekijihpgkaa
