/- Rungs of a format and the numbers on them. Plain: nothing of the dump. -/
import Derived.Test.YtdodmfojbbmbdaaFloat
namespace Go.Proofs.Ytdodmfojbbmbdaa
open Ieee

/-- The number on a rung below infinity, in units of the least place. -/
def rval (f : Format) (r : Nat) : Nat := if r < f.binade then r else (f.binade + r % f.binade) * 2 ^ (r / f.binade - 1)
theorem binade_pos (f : Format) : 0 < f.binade := Nat.two_pow_pos _
theorem rval_q (f : Format) {r q t : Nat} (hr : r = (q + 1) * f.binade + t) (ht : t < f.binade) : rval f r = (f.binade + t) * 2 ^ q := by
  have hB := binade_pos f
  subst hr
  unfold rval
  rw [if_neg (by rw [Nat.add_mul]; omega), Nat.mul_comm (q + 1), Nat.mul_add_mod, Nat.mul_add_div hB, Nat.div_eq_of_lt ht, Nat.mod_eq_of_lt ht]
  rfl
theorem rung_split (f : Format) (r : Nat) : r < f.binade ∨ ∃ q t, r = (q + 1) * f.binade + t ∧ t < f.binade := by
  rcases Nat.lt_or_ge r f.binade with h | h
  · exact .inl h
  · have hB := binade_pos f
    have h1 : 1 ≤ r / f.binade := (Nat.le_div_iff_mul_le hB).2 (by omega)
    refine .inr ⟨r / f.binade - 1, r % f.binade, ?_, Nat.mod_lt _ hB⟩
    rw [Nat.sub_add_cancel h1, Nat.mul_comm]
    exact (Nat.div_add_mod r f.binade).symm
theorem rval_lt {f : Format} {r r' : Nat} (h : r < r') : rval f r < rval f r' := by
  have hB := binade_pos f
  rcases rung_split f r with hr | ⟨q, t, hr, ht⟩
  · have e1 : rval f r = r := by unfold rval; rw [if_pos hr]
    rcases rung_split f r' with hr' | ⟨q', t', hr', ht'⟩
    · have e2 : rval f r' = r' := by unfold rval; rw [if_pos hr']
      omega
    · rw [e1, rval_q f hr' ht']
      have : (f.binade + t') * 1 ≤ (f.binade + t') * 2 ^ q' := Nat.mul_le_mul_left _ (Nat.two_pow_pos _)
      omega
  · rcases rung_split f r' with hr' | ⟨q', t', hr', ht'⟩
    · rw [hr, Nat.add_mul] at h
      omega
    · rw [rval_q f hr ht, rval_q f hr' ht']
      rcases Nat.lt_trichotomy q q' with hq | hq | hq
      · have h1 : (f.binade + t) * 2 ^ q < (2 * f.binade) * 2 ^ q := Nat.mul_lt_mul_of_pos_right (by omega) (Nat.two_pow_pos _)
        have h2 : (2 * f.binade) * 2 ^ q = f.binade * 2 ^ (q + 1) := by rw [Nat.pow_succ, Nat.mul_comm 2, Nat.mul_assoc, Nat.mul_comm 2]
        have h3 : f.binade * 2 ^ (q + 1) ≤ f.binade * 2 ^ q' := Nat.mul_le_mul_left _ (Nat.pow_le_pow_right (by decide) hq)
        have h4 : f.binade * 2 ^ q' ≤ (f.binade + t') * 2 ^ q' := Nat.mul_le_mul_right _ (by omega)
        omega
      · subst hq
        exact Nat.mul_lt_mul_of_pos_right (by omega) (Nat.two_pow_pos _)
      · exfalso
        have : (q' + 1 + 1) * f.binade ≤ (q + 1) * f.binade := Nat.mul_le_mul_right _ (by omega)
        rw [Nat.add_mul (q' + 1)] at this
        omega
theorem rval_le {f : Format} {r r' : Nat} (h : r ≤ r') : rval f r ≤ rval f r' := by
  rcases Nat.lt_or_ge r r' with h' | h'
  · exact Nat.le_of_lt (rval_lt h')
  · have : r = r' := by omega
    subst this; exact Nat.le_refl _
theorem rval_inj {f : Format} {r r' : Nat} (h : rval f r = rval f r') : r = r' := by
  rcases Nat.lt_trichotomy r r' with h' | h' | h'
  · have := rval_lt (f := f) h'; omega
  · exact h'
  · have := rval_lt (f := f) h'; omega

theorem word_neg (f : Format) (neg : Bool) {r : Nat} (h : r < f.signWeight) : (f.word neg r / f.signWeight % 2 == 1) = neg := by
  have hp : 0 < f.signWeight := Nat.two_pow_pos _
  unfold Format.word
  cases neg
  · simp [Nat.div_eq_of_lt h]
  · simp [Nat.add_div_left, hp, Nat.div_eq_of_lt h]
/-- What is read of a sign and a rung below infinity. -/
theorem read_rung (f : Format) (neg : Bool) {r : Nat} (h : r < f.infRung) (hw : f.infRung < f.signWeight) :
    ∃ m e, f.read (f.word neg r) = .number neg m e ∧ f.leastPlace ≤ e ∧ m <<< (e - f.leastPlace).toNat = rval f r ∧ (m = 0 → r = 0) := by
  have hr := rung_word f neg (Nat.lt_trans h hw)
  have hn := word_neg f neg (Nat.lt_trans h hw)
  unfold Format.read rval
  simp only [hr, hn]
  have hB := binade_pos f
  by_cases h1 : r < f.binade
  · rw [if_pos h1, if_pos h1]
    exact ⟨r, f.leastPlace, rfl, Int.le_refl _, by simp, id⟩
  · rw [if_neg h1, if_neg h1, if_pos h]
    refine ⟨_, _, rfl, by omega, ?_, by omega⟩
    rw [Nat.shiftLeft_eq]
    congr 2
    omega

/-- A number that the format has is written as it is. -/
theorem nearest_exact (f : Format) (neg : Bool) {m : Nat} {e : Int} (hm : m ≠ 0) (hL : m.log2 ≤ f.fractionBits) (hlo : f.leastPlace ≤ e + m.log2 - f.fractionBits)
    (hhi : ((e + m.log2 - f.fractionBits - f.leastPlace).toNat + 2) * f.binade ≤ f.infRung) :
    ∃ r, f.nearest neg m e = f.word neg r ∧ r < f.infRung ∧ rval f r = m <<< (f.fractionBits - m.log2) <<< (e + m.log2 - f.fractionBits - f.leastPlace).toNat := by
  have hB := binade_pos f
  unfold Format.nearest
  rw [if_neg hm]
  have hmax : max (e + (m.log2 : Int) - f.fractionBits) f.leastPlace = e + m.log2 - f.fractionBits := by omega
  simp only [hmax]
  have ha : (e - (e + (m.log2 : Int) - f.fractionBits)).toNat = f.fractionBits - m.log2 := by omega
  have hb : (e + (m.log2 : Int) - f.fractionBits - e).toNat = 0 := by omega
  rw [ha, hb, cut_zero]
  have hK1 : m <<< (f.fractionBits - m.log2) < 2 * f.binade := by
    have h1 : m < 2 ^ (m.log2 + 1) := Nat.lt_log2_self
    have h2 : 2 ^ (m.log2 + 1) * 2 ^ (f.fractionBits - m.log2) = 2 * f.binade := by
      rw [← Nat.pow_add]; unfold Format.binade; rw [show m.log2 + 1 + (f.fractionBits - m.log2) = f.fractionBits + 1 by omega, Nat.pow_succ, Nat.mul_comm]
    rw [← h2, Nat.shiftLeft_eq]
    exact Nat.mul_lt_mul_of_pos_right h1 (Nat.two_pow_pos _)
  have hK2 : f.binade ≤ m <<< (f.fractionBits - m.log2) := by
    have h1 : 2 ^ m.log2 ≤ m := Nat.log2_self_le hm
    have h2 : 2 ^ m.log2 * 2 ^ (f.fractionBits - m.log2) = f.binade := by
      rw [← Nat.pow_add]; unfold Format.binade; congr 1; omega
    rw [← h2, Nat.shiftLeft_eq]
    exact Nat.mul_le_mul_right _ h1
  generalize m <<< (f.fractionBits - m.log2) = K at *
  generalize (e + (m.log2 : Int) - f.fractionBits - f.leastPlace).toNat = q at *
  have hlt : q * f.binade + K < f.infRung := by
    rw [Nat.add_mul] at hhi
    omega
  refine ⟨_, rfl, by omega, ?_⟩
  rw [Nat.min_eq_left (Nat.le_of_lt hlt), rval_q f (q := q) (t := K - f.binade) (by rw [Nat.add_mul]; omega) (by omega), Nat.shiftLeft_eq]
  congr 1
  omega

/-- The sign of a number. -/
def sgn (k : FloatKind) (x : Nat) : Bool := x / k.format.signWeight % 2 == 1
theorem fkey_word (k : FloatKind) (neg : Bool) {r : Nat} (h : r < k.format.infRung) : fkey k (k.format.word neg r) = if neg then -(rval k.format r : Int) else (rval k.format r : Int) := by
  obtain ⟨m, e, hr, _, hv, _⟩ := read_rung k.format neg h (infRung_lt' k)
  unfold fkey
  rw [hr]
  unfold dkey signed
  dsimp only
  rw [hv]
theorem word_of (f : Format) {x : Nat} (h : x < 2 * f.signWeight) : ∃ r, r < f.signWeight ∧ x = f.word (x / f.signWeight % 2 == 1) r := by
  have hp : 0 < f.signWeight := Nat.two_pow_pos _
  refine ⟨x % f.signWeight, Nat.mod_lt _ hp, ?_⟩
  have h2 : x / f.signWeight < 2 := (Nat.div_lt_iff_lt_mul hp).2 (by omega)
  have h3 := Nat.div_add_mod x f.signWeight
  unfold Format.word
  generalize x / f.signWeight = q at *
  match q, h2 with
  | 0, _ => simp at h3 ⊢; exact h3.symm
  | 1, _ => simp at h3 ⊢; exact h3.symm
theorem isN_word (k : FloatKind) (neg : Bool) {r : Nat} (h : r < k.format.signWeight) : isN k (k.format.word neg r) = decide (k.format.infRung < r) := by
  have hr := rung_word k.format neg h
  have hlt : k.format.binade ≤ k.format.infRung := by cases k <;> decide
  unfold isN Format.read
  simp only [hr]
  split
  · rename_i h1; simp [Datum.isNaN]; omega
  · split
    · rename_i h1; simp [Datum.isNaN]; omega
    · split
      · rename_i h1; simp [Datum.isNaN]; omega
      · simp [Datum.isNaN]; omega
theorem fkey_inf (k : FloatKind) (neg : Bool) : fkey k (k.format.word neg k.format.infRung) = if neg then -farKey else farKey := by
  have h := infRung_lt' k
  have hr := rung_word k.format neg h
  have hn := word_neg k.format neg h
  have hlt : k.format.binade ≤ k.format.infRung := by cases k <;> decide
  unfold fkey Format.read
  simp only [hr, hn]
  rw [if_neg (by omega), if_neg (by omega), if_pos trivial]
  rfl
theorem rval_far (k : FloatKind) {r : Nat} (h : r < k.format.infRung) : (rval k.format r : Int) < farKey := by
  obtain ⟨m, e, hr, hl, hv, _⟩ := read_rung k.format false h (infRung_lt' k)
  obtain ⟨b1, b2, b3⟩ := read_bounds k hr
  have := (signed_lt false b1 (a := (e - k.format.leastPlace).toNat) (by omega)).2
  unfold signed at this
  rw [hv] at this
  simpa using this
/-- Two numbers that are no NaN have the same bits just if they are equal and have the same sign. -/
theorem bits_eq {k : FloatKind} {x y : Nat} (hx : x < 2 * k.format.signWeight) (hy : y < 2 * k.format.signWeight) (nx : isN k x = false) (ny : isN k y = false) :
    (x = y) ↔ (ford k x y = some .eq ∧ sgn k x = sgn k y) := by
  constructor
  · rintro rfl
    exact ⟨ford_eq.2 ⟨nx, nx, rfl⟩, rfl⟩
  · rintro ⟨h, hs⟩
    have hk := (ford_eq.1 h).2.2
    obtain ⟨r, hr, ex⟩ := word_of k.format hx
    obtain ⟨r', hr', ey⟩ := word_of k.format hy
    unfold sgn at hs
    rw [hs] at ex
    generalize (y / k.format.signWeight % 2 == 1) = s at *
    clear hs
    subst ex; subst ey
    rw [isN_word k s hr] at nx
    rw [isN_word k s hr'] at ny
    simp only [decide_eq_false_iff_not, Nat.not_lt] at nx ny
    have hf : (0 : Int) < farKey := by
      have := (signed_lt false (m := 0) (a := 0) (by decide) (by decide)).2
      simpa [signed] using this
    rcases Nat.lt_or_ge r k.format.infRung with h1 | h1
    · have f1 := rval_far k h1
      rcases Nat.lt_or_ge r' k.format.infRung with h2 | h2
      · rw [fkey_word k s h1, fkey_word k s h2] at hk
        have : rval k.format r = rval k.format r' := by cases s <;> simp at hk <;> omega
        rw [rval_inj this]
      · obtain rfl : r' = k.format.infRung := by omega
        rw [fkey_word k s h1, fkey_inf] at hk
        exfalso
        cases s <;> simp at hk <;> omega
    · obtain rfl : r = k.format.infRung := by omega
      rcases Nat.lt_or_ge r' k.format.infRung with h2 | h2
      · have f1 := rval_far k h2
        rw [fkey_word k s h2, fkey_inf] at hk
        exfalso
        cases s <;> simp at hk <;> omega
      · obtain rfl : r' = k.format.infRung := by omega
        rfl
end Go.Proofs.Ytdodmfojbbmbdaa
