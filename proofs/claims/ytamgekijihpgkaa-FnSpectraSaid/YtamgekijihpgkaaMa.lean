/- Several texts in one: Rung, Near, Conv, Near2. -/
import Derived.Test.YtamgekijihpgkaaFloat
/- Rungs of a format and the numbers on them. Plain: nothing of the dump. -/
namespace Go.Proofs.Ytamgekijihpgkaa
open Ieee

/-- The number on a rung below infinity, in units of the least place. -/
def rval (f : Format) (r : Nat) : Nat := if r < f.binade then r else (f.binade + r % f.binade) * 2 ^ (r / f.binade - 1)
theorem binade_pos (f : Format) : 0 < f.binade := Nat.two_pow_pos _
theorem rval_q (f : Format) {r q t : Nat} (hr : r = (q + 1) * f.binade + t) (ht : t < f.binade) : rval f r = (f.binade + t) * 2 ^ q := by
  have hB := binade_pos f
  subst hr
  unfold rval
  rw [if_neg (by rw [Nat.add_mul]; omega), Nat.mul_comm (q + 1), Nat.mul_add_mod, Nat.mul_add_div hB, Nat.div_eq_of_lt ht, Nat.mod_eq_of_lt ht]
  rfl
theorem rung_split (f : Format) (r : Nat) : r < f.binade ∨ ∃ q t, r = (q + 1) * f.binade + t ∧ t < f.binade := by
  rcases Nat.lt_or_ge r f.binade with h | h
  · exact .inl h
  · have hB := binade_pos f
    have h1 : 1 ≤ r / f.binade := (Nat.le_div_iff_mul_le hB).2 (by omega)
    refine .inr ⟨r / f.binade - 1, r % f.binade, ?_, Nat.mod_lt _ hB⟩
    rw [Nat.sub_add_cancel h1, Nat.mul_comm]
    exact (Nat.div_add_mod r f.binade).symm
theorem rval_lt {f : Format} {r r' : Nat} (h : r < r') : rval f r < rval f r' := by
  have hB := binade_pos f
  rcases rung_split f r with hr | ⟨q, t, hr, ht⟩
  · have e1 : rval f r = r := by unfold rval; rw [if_pos hr]
    rcases rung_split f r' with hr' | ⟨q', t', hr', ht'⟩
    · have e2 : rval f r' = r' := by unfold rval; rw [if_pos hr']
      omega
    · rw [e1, rval_q f hr' ht']
      have : (f.binade + t') * 1 ≤ (f.binade + t') * 2 ^ q' := Nat.mul_le_mul_left _ (Nat.two_pow_pos _)
      omega
  · rcases rung_split f r' with hr' | ⟨q', t', hr', ht'⟩
    · rw [hr, Nat.add_mul] at h
      omega
    · rw [rval_q f hr ht, rval_q f hr' ht']
      rcases Nat.lt_trichotomy q q' with hq | hq | hq
      · have h1 : (f.binade + t) * 2 ^ q < (2 * f.binade) * 2 ^ q := Nat.mul_lt_mul_of_pos_right (by omega) (Nat.two_pow_pos _)
        have h2 : (2 * f.binade) * 2 ^ q = f.binade * 2 ^ (q + 1) := by rw [Nat.pow_succ, Nat.mul_comm 2, Nat.mul_assoc, Nat.mul_comm 2]
        have h3 : f.binade * 2 ^ (q + 1) ≤ f.binade * 2 ^ q' := Nat.mul_le_mul_left _ (Nat.pow_le_pow_right (by decide) hq)
        have h4 : f.binade * 2 ^ q' ≤ (f.binade + t') * 2 ^ q' := Nat.mul_le_mul_right _ (by omega)
        omega
      · subst hq
        exact Nat.mul_lt_mul_of_pos_right (by omega) (Nat.two_pow_pos _)
      · exfalso
        have : (q' + 1 + 1) * f.binade ≤ (q + 1) * f.binade := Nat.mul_le_mul_right _ (by omega)
        rw [Nat.add_mul (q' + 1)] at this
        omega
theorem rval_le {f : Format} {r r' : Nat} (h : r ≤ r') : rval f r ≤ rval f r' := by
  rcases Nat.lt_or_ge r r' with h' | h'
  · exact Nat.le_of_lt (rval_lt h')
  · have : r = r' := by omega
    subst this; exact Nat.le_refl _
theorem rval_inj {f : Format} {r r' : Nat} (h : rval f r = rval f r') : r = r' := by
  rcases Nat.lt_trichotomy r r' with h' | h' | h'
  · have := rval_lt (f := f) h'; omega
  · exact h'
  · have := rval_lt (f := f) h'; omega

theorem word_neg (f : Format) (neg : Bool) {r : Nat} (h : r < f.signWeight) : (f.word neg r / f.signWeight % 2 == 1) = neg := by
  have hp : 0 < f.signWeight := Nat.two_pow_pos _
  unfold Format.word
  cases neg
  · simp [Nat.div_eq_of_lt h]
  · simp [Nat.add_div_left, hp, Nat.div_eq_of_lt h]
/-- What is read of a sign and a rung below infinity. -/
theorem read_rung (f : Format) (neg : Bool) {r : Nat} (h : r < f.infRung) (hw : f.infRung < f.signWeight) :
    ∃ m e, f.read (f.word neg r) = .number neg m e ∧ f.leastPlace ≤ e ∧ m <<< (e - f.leastPlace).toNat = rval f r ∧ (m = 0 → r = 0) := by
  have hr := rung_word f neg (Nat.lt_trans h hw)
  have hn := word_neg f neg (Nat.lt_trans h hw)
  unfold Format.read rval
  simp only [hr, hn]
  have hB := binade_pos f
  by_cases h1 : r < f.binade
  · rw [if_pos h1, if_pos h1]
    exact ⟨r, f.leastPlace, rfl, Int.le_refl _, by simp, id⟩
  · rw [if_neg h1, if_neg h1, if_pos h]
    refine ⟨_, _, rfl, by omega, ?_, by omega⟩
    rw [Nat.shiftLeft_eq]
    congr 2
    omega

/-- A number that the format has is written as it is. -/
theorem nearest_exact (f : Format) (neg : Bool) {m : Nat} {e : Int} (hm : m ≠ 0) (hL : m.log2 ≤ f.fractionBits) (hlo : f.leastPlace ≤ e + m.log2 - f.fractionBits)
    (hhi : ((e + m.log2 - f.fractionBits - f.leastPlace).toNat + 2) * f.binade ≤ f.infRung) :
    ∃ r, f.nearest neg m e = f.word neg r ∧ r < f.infRung ∧ rval f r = m <<< (f.fractionBits - m.log2) <<< (e + m.log2 - f.fractionBits - f.leastPlace).toNat := by
  have hB := binade_pos f
  unfold Format.nearest
  rw [if_neg hm]
  have hmax : max (e + (m.log2 : Int) - f.fractionBits) f.leastPlace = e + m.log2 - f.fractionBits := by omega
  simp only [hmax]
  have ha : (e - (e + (m.log2 : Int) - f.fractionBits)).toNat = f.fractionBits - m.log2 := by omega
  have hb : (e + (m.log2 : Int) - f.fractionBits - e).toNat = 0 := by omega
  rw [ha, hb, cut_zero]
  have hK1 : m <<< (f.fractionBits - m.log2) < 2 * f.binade := by
    have h1 : m < 2 ^ (m.log2 + 1) := Nat.lt_log2_self
    have h2 : 2 ^ (m.log2 + 1) * 2 ^ (f.fractionBits - m.log2) = 2 * f.binade := by
      rw [← Nat.pow_add]; unfold Format.binade; rw [show m.log2 + 1 + (f.fractionBits - m.log2) = f.fractionBits + 1 by omega, Nat.pow_succ, Nat.mul_comm]
    rw [← h2, Nat.shiftLeft_eq]
    exact Nat.mul_lt_mul_of_pos_right h1 (Nat.two_pow_pos _)
  have hK2 : f.binade ≤ m <<< (f.fractionBits - m.log2) := by
    have h1 : 2 ^ m.log2 ≤ m := Nat.log2_self_le hm
    have h2 : 2 ^ m.log2 * 2 ^ (f.fractionBits - m.log2) = f.binade := by
      rw [← Nat.pow_add]; unfold Format.binade; congr 1; omega
    rw [← h2, Nat.shiftLeft_eq]
    exact Nat.mul_le_mul_right _ h1
  generalize m <<< (f.fractionBits - m.log2) = K at *
  generalize (e + (m.log2 : Int) - f.fractionBits - f.leastPlace).toNat = q at *
  have hlt : q * f.binade + K < f.infRung := by
    rw [Nat.add_mul] at hhi
    omega
  refine ⟨_, rfl, by omega, ?_⟩
  rw [Nat.min_eq_left (Nat.le_of_lt hlt), rval_q f (q := q) (t := K - f.binade) (by rw [Nat.add_mul]; omega) (by omega), Nat.shiftLeft_eq]
  congr 1
  omega

/-- The sign of a number. -/
def sgn (k : FloatKind) (x : Nat) : Bool := x / k.format.signWeight % 2 == 1
theorem fkey_word (k : FloatKind) (neg : Bool) {r : Nat} (h : r < k.format.infRung) : fkey k (k.format.word neg r) = if neg then -(rval k.format r : Int) else (rval k.format r : Int) := by
  obtain ⟨m, e, hr, _, hv, _⟩ := read_rung k.format neg h (infRung_lt' k)
  unfold fkey
  rw [hr]
  unfold dkey signed
  dsimp only
  rw [hv]
theorem word_of (f : Format) {x : Nat} (h : x < 2 * f.signWeight) : ∃ r, r < f.signWeight ∧ x = f.word (x / f.signWeight % 2 == 1) r := by
  have hp : 0 < f.signWeight := Nat.two_pow_pos _
  refine ⟨x % f.signWeight, Nat.mod_lt _ hp, ?_⟩
  have h2 : x / f.signWeight < 2 := (Nat.div_lt_iff_lt_mul hp).2 (by omega)
  have h3 := Nat.div_add_mod x f.signWeight
  unfold Format.word
  generalize x / f.signWeight = q at *
  match q, h2 with
  | 0, _ => simp at h3 ⊢; exact h3.symm
  | 1, _ => simp at h3 ⊢; exact h3.symm
theorem isN_word (k : FloatKind) (neg : Bool) {r : Nat} (h : r < k.format.signWeight) : isN k (k.format.word neg r) = decide (k.format.infRung < r) := by
  have hr := rung_word k.format neg h
  have hlt : k.format.binade ≤ k.format.infRung := by cases k <;> decide
  unfold isN Format.read
  simp only [hr]
  split
  · rename_i h1; simp [Datum.isNaN]; omega
  · split
    · rename_i h1; simp [Datum.isNaN]; omega
    · split
      · rename_i h1; simp [Datum.isNaN]; omega
      · simp [Datum.isNaN]; omega
theorem fkey_inf (k : FloatKind) (neg : Bool) : fkey k (k.format.word neg k.format.infRung) = if neg then -farKey else farKey := by
  have h := infRung_lt' k
  have hr := rung_word k.format neg h
  have hn := word_neg k.format neg h
  have hlt : k.format.binade ≤ k.format.infRung := by cases k <;> decide
  unfold fkey Format.read
  simp only [hr, hn]
  rw [if_neg (by omega), if_neg (by omega), if_pos trivial]
  rfl
theorem rval_far (k : FloatKind) {r : Nat} (h : r < k.format.infRung) : (rval k.format r : Int) < farKey := by
  obtain ⟨m, e, hr, hl, hv, _⟩ := read_rung k.format false h (infRung_lt' k)
  obtain ⟨b1, b2, b3⟩ := read_bounds k hr
  have := (signed_lt false b1 (a := (e - k.format.leastPlace).toNat) (by omega)).2
  unfold signed at this
  rw [hv] at this
  simpa using this
/-- Two numbers that are no NaN have the same bits just if they are equal and have the same sign. -/
theorem bits_eq {k : FloatKind} {x y : Nat} (hx : x < 2 * k.format.signWeight) (hy : y < 2 * k.format.signWeight) (nx : isN k x = false) (ny : isN k y = false) :
    (x = y) ↔ (ford k x y = some .eq ∧ sgn k x = sgn k y) := by
  constructor
  · rintro rfl
    exact ⟨ford_eq.2 ⟨nx, nx, rfl⟩, rfl⟩
  · rintro ⟨h, hs⟩
    have hk := (ford_eq.1 h).2.2
    obtain ⟨r, hr, ex⟩ := word_of k.format hx
    obtain ⟨r', hr', ey⟩ := word_of k.format hy
    unfold sgn at hs
    rw [hs] at ex
    generalize (y / k.format.signWeight % 2 == 1) = s at *
    clear hs
    subst ex; subst ey
    rw [isN_word k s hr] at nx
    rw [isN_word k s hr'] at ny
    simp only [decide_eq_false_iff_not, Nat.not_lt] at nx ny
    have hf : (0 : Int) < farKey := by
      have := (signed_lt false (m := 0) (a := 0) (by decide) (by decide)).2
      simpa [signed] using this
    rcases Nat.lt_or_ge r k.format.infRung with h1 | h1
    · have f1 := rval_far k h1
      rcases Nat.lt_or_ge r' k.format.infRung with h2 | h2
      · rw [fkey_word k s h1, fkey_word k s h2] at hk
        have : rval k.format r = rval k.format r' := by cases s <;> simp at hk <;> omega
        rw [rval_inj this]
      · obtain rfl : r' = k.format.infRung := by omega
        rw [fkey_word k s h1, fkey_inf] at hk
        exfalso
        cases s <;> simp at hk <;> omega
    · obtain rfl : r = k.format.infRung := by omega
      rcases Nat.lt_or_ge r' k.format.infRung with h2 | h2
      · have f1 := rval_far k h2
        rw [fkey_word k s h2, fkey_inf] at hk
        exfalso
        cases s <;> simp at hk <;> omega
      · obtain rfl : r' = k.format.infRung := by omega
        rfl
end Go.Proofs.Ytamgekijihpgkaa

/- Rounding against powers of two: how great a sum, a product, a quotient can be. Plain: nothing of the dump. -/
namespace Go.Proofs.Ytamgekijihpgkaa
open Ieee

theorem cut_le {neg : Bool} {n drop c : Nat} (h : n ≤ c * 2 ^ drop) : Toward.even.cut neg n drop ≤ c := by
  unfold Toward.cut
  have hp : 0 < 2 ^ (min drop (n.log2 + 2)) := Nat.two_pow_pos _
  simp only [Nat.shiftLeft_eq, Nat.one_mul]
  by_cases hm : drop ≤ n.log2 + 2
  · rw [Nat.min_eq_left hm] at hp ⊢
    generalize 2 ^ drop = g at *
    have h1 := Nat.div_add_mod n g
    rcases Nat.lt_or_ge (n / g) c with hlt | hge
    · cases (decide (g < 2 * (n % g)) || g == 2 * (n % g) && n / g % 2 == 1) <;> simp <;> omega
    · have h2 : c * g ≤ (n / g) * g := Nat.mul_le_mul_right _ hge
      rw [Nat.mul_comm (n / g)] at h2
      have h3 : n % g = 0 := by omega
      have h4 : n / g = c := by
        have : n = c * g := by omega
        rw [this, Nat.mul_div_cancel _ hp]
      rw [h3, h4]
      have h5 : (g == 0) = false := by simpa using (by omega : ¬ g = 0)
      simp [h5]
  · rw [Nat.min_eq_right (by omega)] at hp ⊢
    have h1 : n < 2 ^ (n.log2 + 1) := Nat.lt_log2_self
    rw [Nat.pow_succ] at hp ⊢
    generalize 2 ^ (n.log2 + 1) = g at *
    have h2 : n / (g * 2) = 0 := Nat.div_eq_of_lt (by omega)
    have h3 : n % (g * 2) = n := Nat.mod_eq_of_lt (by omega)
    have h4 : ¬ g * 2 < 2 * n := by omega
    simp [h2, h3, h4]
theorem cut_ge {neg : Bool} {n drop c : Nat} (h : c * 2 ^ drop ≤ n) : c ≤ Toward.even.cut neg n drop := by
  unfold Toward.cut
  simp only [Nat.shiftLeft_eq, Nat.one_mul]
  by_cases hm : drop ≤ n.log2 + 2
  · rw [Nat.min_eq_left hm]
    have := (Nat.le_div_iff_mul_le (Nat.two_pow_pos drop)).2 h
    omega
  · have h1 : n < 2 ^ (n.log2 + 1) := Nat.lt_log2_self
    have h2 : 2 ^ (n.log2 + 1) ≤ 2 ^ drop := Nat.pow_le_pow_right (by decide) (by omega)
    have h3 : c = 0 := by
      rcases Nat.eq_zero_or_pos c with h0 | h0
      · exact h0
      · have : 1 * 2 ^ drop ≤ c * 2 ^ drop := Nat.mul_le_mul_right _ h0
        omega
    rw [h3]
    exact Nat.zero_le _

def bias (k : FloatKind) : Nat := match k with | .f32 => 127 | .f64 => 1023
theorem lp_eq (k : FloatKind) : k.format.leastPlace = 1 - (k.format.fractionBits : Int) - (bias k : Int) := by cases k <;> decide
theorem inf_eq (k : FloatKind) : k.format.infRung = (2 * bias k + 1) * k.format.binade := by cases k <;> decide
theorem fb_pos (k : FloatKind) : 0 < k.format.fractionBits := by cases k <;> decide

/-- The number is at most 2 to the power of R - bias, of whatever sign. -/
def Up (k : FloatKind) (b R : Nat) : Prop := ∃ s r, b = k.format.word s r ∧ r ≤ R * k.format.binade
/-- The number is at least 2 to the power of R - bias, of whatever sign, and no infinity. -/
def Lo (k : FloatKind) (b R : Nat) : Prop := ∃ s r, b = k.format.word s r ∧ R * k.format.binade ≤ r ∧ r < k.format.infRung

theorem Up.weak {k : FloatKind} {b R R' : Nat} (h : Up k b R) (hR : R ≤ R') : Up k b R' := by
  obtain ⟨s, r, e, h⟩ := h
  exact ⟨s, r, e, Nat.le_trans h (Nat.mul_le_mul_right _ hR)⟩

theorem nearest_up (k : FloatKind) (neg : Bool) {m : Nat} {e E : Int} {R : Nat} (hR : 1 ≤ R) (hE : E = (R : Int) - bias k) (he : e ≤ E) (hm : m ≤ 2 ^ (E - e).toNat) :
    ∃ r, k.format.nearest neg m e = k.format.word neg r ∧ r ≤ R * k.format.binade ∧ r ≤ k.format.infRung := by
  have hlp := lp_eq k
  have hB := binade_pos k.format
  unfold Format.nearest
  by_cases h0 : m = 0
  · rw [if_pos h0]; exact ⟨0, rfl, Nat.zero_le _, Nat.zero_le _⟩
  · rw [if_neg h0]
    refine ⟨_, rfl, ?_, Nat.min_le_right _ _⟩
    apply Nat.le_trans (Nat.min_le_left _ _)
    generalize k.format.leastPlace = lp at *
    have hBd : k.format.binade = 2 ^ k.format.fractionBits := rfl
    generalize k.format.binade = B at *
    generalize k.format.fractionBits = fb at *
    have hL : 2 ^ m.log2 ≤ m := Nat.log2_self_le h0
    have hL2 : m < 2 ^ (m.log2 + 1) := Nat.lt_log2_self
    have hLE : m.log2 ≤ (E - e).toNat := by
      rcases Nat.lt_or_ge (E - e).toNat m.log2 with h | h
      · exfalso
        have : 2 ^ (E - e).toNat < 2 ^ m.log2 := Nat.pow_lt_pow_right (by decide) h
        omega
      · exact h
    generalize m.log2 = L at *
    obtain ⟨q, hq⟩ : ∃ q : Nat, max (e + (L : Int) - fb) lp = lp + q := ⟨(max (e + (L : Int) - fb) lp - lp).toNat, by omega⟩
    rw [hq]
    have hqR : q + 1 ≤ R := by omega
    have e1 : (lp + (q : Int) - lp).toNat = q := by omega
    rw [e1]
    -- the kept digits
    have key : ∀ c t : Nat, c = 2 ^ t → m ≤ 2 ^ (t + (lp + q - e)).toNat → 0 ≤ t + (lp + q - e) → Toward.even.cut neg (m <<< (e - (lp + (q : Int))).toNat) (lp + (q : Int) - e).toNat ≤ c := by
      intro c t hc hmt ht
      apply cut_le
      rw [Nat.shiftLeft_eq, hc, ← Nat.pow_add]
      rcases Int.le_total e (lp + q) with h | h
      · rw [show (e - (lp + (q : Int))).toNat = 0 by omega, Nat.pow_zero, Nat.mul_one, show t + (lp + (q : Int) - e).toNat = (t + (lp + q - e)).toNat by omega]
        exact hmt
      · rw [show (lp + (q : Int) - e).toNat = 0 by omega, Nat.add_zero]
        have : 2 ^ t = 2 ^ (t + (lp + q - e)).toNat * 2 ^ (e - (lp + (q : Int))).toNat := by rw [← Nat.pow_add]; congr 1 <;> omega
        rw [this]
        exact Nat.mul_le_mul_right _ hmt
    rcases Nat.lt_or_ge (q + 1) R with h | h
    · have h2 : m ≤ 2 ^ (((fb + 1 : Nat) : Int) + (lp + q - e)).toNat := Nat.le_trans (Nat.le_of_lt hL2) (Nat.pow_le_pow_right (by decide) (by omega))
      have := key (2 * B) (fb + 1) (by rw [hBd, Nat.pow_succ, Nat.mul_comm]) h2 (by omega)
      have h3 : (q + 2) * B ≤ R * B := Nat.mul_le_mul_right _ h
      rw [Nat.add_mul] at h3
      omega
    · have hRq : R = q + 1 := by omega
      have h2 : m ≤ 2 ^ ((fb : Int) + (lp + q - e)).toNat := by
        rw [show ((fb : Int) + (lp + q - e)).toNat = (E - e).toNat by omega]; exact hm
      have := key B fb hBd h2 (by omega)
      rw [hRq, Nat.add_mul]
      omega
theorem nearest_lo (k : FloatKind) (neg : Bool) {m : Nat} {e : Int} {R : Nat} (hR : 1 ≤ R) (hm : m ≠ 0) (hE : (R : Int) - bias k ≤ e + m.log2) (hi : R ≤ 2 * bias k + 1) :
    ∃ r, k.format.nearest neg m e = k.format.word neg r ∧ R * k.format.binade ≤ r := by
  have hlp := lp_eq k
  have hB := binade_pos k.format
  have hI := inf_eq k
  unfold Format.nearest
  rw [if_neg hm]
  refine ⟨_, rfl, ?_⟩
  apply Nat.le_min.2
  refine ⟨?_, by rw [hI]; exact Nat.mul_le_mul_right _ hi⟩
  generalize k.format.leastPlace = lp at *
  have hBd : k.format.binade = 2 ^ k.format.fractionBits := rfl
  generalize k.format.binade = B at *
  generalize k.format.fractionBits = fb at *
  have hL : 2 ^ m.log2 ≤ m := Nat.log2_self_le hm
  generalize m.log2 = L at *
  have hq : max (e + (L : Int) - fb) lp = e + L - fb := by omega
  rw [hq]
  have hc : B ≤ Toward.even.cut neg (m <<< (e - (e + (L : Int) - fb)).toNat) (e + (L : Int) - fb - e).toNat := by
    apply cut_ge
    rw [Nat.shiftLeft_eq, hBd, ← Nat.pow_add]
    have : 2 ^ (fb + (e + (L : Int) - fb - e).toNat) = 2 ^ L * 2 ^ (e - (e + (L : Int) - fb)).toNat := by rw [← Nat.pow_add]; congr 1 <;> omega
    rw [this]
    exact Nat.mul_le_mul_right _ hL
  have h3 : R * B ≤ ((e + (L : Int) - fb - lp).toNat + 1) * B := Nat.mul_le_mul_right _ (by omega)
  rw [Nat.add_mul] at h3
  omega

/-- What is read of a number that is not greater. -/
theorem Up.read {k : FloatKind} {b R : Nat} (h : Up k b R) (hR : 1 ≤ R) (hT : R ≤ 2 * bias k) : ∃ s m e, k.format.read b = .number s m e ∧ e ≤ (R : Int) - bias k ∧ m ≤ 2 ^ ((R : Int) - bias k - e).toNat ∧ k.format.leastPlace ≤ e := by
  obtain ⟨s, r, rfl, hr⟩ := h
  have hlp := lp_eq k
  have hB := binade_pos k.format
  have hI := inf_eq k
  have hfb := fb_pos k
  have hlt : r < k.format.infRung := by
    rw [hI]
    have : R * k.format.binade ≤ (2 * bias k) * k.format.binade := Nat.mul_le_mul_right _ hT
    rw [Nat.add_mul]
    omega
  have h1 := rung_word k.format s (Nat.lt_trans hlt (infRung_lt' k))
  have h2 := word_neg k.format s (Nat.lt_trans hlt (infRung_lt' k))
  unfold Format.read
  simp only [h1, h2]
  have hBd : k.format.binade = 2 ^ k.format.fractionBits := rfl
  rcases rung_split k.format r with h | ⟨q, t, hq, ht⟩
  · rw [if_pos h]
    refine ⟨s, r, _, rfl, by omega, ?_, Int.le_refl _⟩
    apply Nat.le_trans (Nat.le_of_lt h)
    rw [hBd]
    exact Nat.pow_le_pow_right (by decide) (by omega)
  · have hge : ¬ r < k.format.binade := by rw [hq, Nat.add_mul]; omega
    rw [if_neg hge, if_pos hlt]
    have hmod : r % k.format.binade = t := by rw [hq, Nat.mul_comm, Nat.mul_add_mod, Nat.mod_eq_of_lt ht]
    have hdiv : r / k.format.binade = q + 1 := by rw [hq, Nat.mul_comm, Nat.mul_add_div hB, Nat.div_eq_of_lt ht]
    rw [hmod, hdiv]
    have hqR : q + 1 ≤ R := by
      rcases Nat.lt_or_ge R (q + 1) with h | h
      · have : (R + 1) * k.format.binade ≤ (q + 1) * k.format.binade := Nat.mul_le_mul_right _ h
        rw [Nat.add_mul] at this
        omega
      · exact h
    refine ⟨s, _, _, rfl, by omega, ?_, by omega⟩
    rcases Nat.lt_or_ge (q + 1) R with h | h
    · have : k.format.binade + t ≤ 2 ^ (k.format.fractionBits + 1) := by rw [Nat.pow_succ, ← hBd]; omega
      exact Nat.le_trans this (Nat.pow_le_pow_right (by decide) (by omega))
    · have hRq : R = q + 1 := by omega
      have ht0 : t = 0 := by rw [hRq] at hr; omega
      rw [ht0, Nat.add_zero, hBd]
      exact Nat.pow_le_pow_right (by decide) (by omega)
theorem Lo.read {k : FloatKind} {b R : Nat} (h : Lo k b R) (hR : 1 ≤ R) : ∃ s m e, k.format.read b = .number s m e ∧ m ≠ 0 ∧ m.log2 ≤ k.format.fractionBits ∧ (R : Int) - bias k ≤ e + m.log2 := by
  obtain ⟨s, r, rfl, hr, hlt⟩ := h
  have hlp := lp_eq k
  have hB := binade_pos k.format
  have h1 := rung_word k.format s (Nat.lt_trans hlt (infRung_lt' k))
  have h2 := word_neg k.format s (Nat.lt_trans hlt (infRung_lt' k))
  unfold Format.read
  simp only [h1, h2]
  have hBd : k.format.binade = 2 ^ k.format.fractionBits := rfl
  have hR1 : 1 * k.format.binade ≤ R * k.format.binade := Nat.mul_le_mul_right _ hR
  rcases rung_split k.format r with h | ⟨q, t, hq, ht⟩
  · omega
  · rw [if_neg (by omega), if_pos hlt]
    have hmod : r % k.format.binade = t := by rw [hq, Nat.mul_comm, Nat.mul_add_mod, Nat.mod_eq_of_lt ht]
    have hdiv : r / k.format.binade = q + 1 := by rw [hq, Nat.mul_comm, Nat.mul_add_div hB, Nat.div_eq_of_lt ht]
    rw [hmod, hdiv]
    have hqR : R ≤ q + 1 := by
      rcases Nat.lt_or_ge (q + 1) R with h | h
      · have : (q + 1 + 1) * k.format.binade ≤ R * k.format.binade := Nat.mul_le_mul_right _ h
        rw [Nat.add_mul (q + 1)] at this
        omega
      · exact h
    have hne : k.format.binade + t ≠ 0 := by omega
    have hlog : (k.format.binade + t).log2 = k.format.fractionBits := (Nat.log2_eq_iff hne).2 ⟨by rw [← hBd]; omega, by rw [Nat.pow_succ, ← hBd]; omega⟩
    exact ⟨s, _, _, rfl, hne, by omega, by omega⟩

/-- Where a NaN is not in question: the operation's result. -/
theorem fop_of {op : BinOp} {k : FloatKind} {x y : Nat} {d : Datum} (h : floatBits op k x y = some (k.format.write d)) (hd : d.isNaN = false) : fop op k x y = k.format.write d := by
  unfold fop
  rw [h]
  exact cn_of_not (isN_write k d hd)
theorem up_mul {k : FloatKind} {x y R1 R2 R : Nat} (hx : Up k x R1) (hy : Up k y R2) (h1 : 1 ≤ R1) (h2 : 1 ≤ R2) (t1 : R1 ≤ 2 * bias k) (t2 : R2 ≤ 2 * bias k) (hR : R + bias k = R1 + R2) (h0 : 1 ≤ R) : Up k (fop .mul k x y) R := by
  obtain ⟨s, m, e, rx, be, bm, _⟩ := hx.read h1 t1
  obtain ⟨t, n, j, ry, bj, bn, _⟩ := hy.read h2 t2
  have hf : floatBits .mul k x y = some (k.format.write (.number (s ^^ t) (m * n) (e + j))) := by
    simp [floatBits, Format.mul, rx, ry, Datum.product]
  rw [fop_of hf rfl]
  obtain ⟨r, hr, hb, _⟩ := nearest_up k (s ^^ t) (m := m * n) (e := e + j) (E := (R : Int) - bias k) h0 rfl (by omega) (by
    have : 2 ^ ((R : Int) - bias k - (e + j)).toNat = 2 ^ ((R1 : Int) - bias k - e).toNat * 2 ^ ((R2 : Int) - bias k - j).toNat := by rw [← Nat.pow_add]; congr 1 <;> omega
    rw [this]
    exact Nat.mul_le_mul bm bn)
  exact ⟨_, r, hr, hb⟩
theorem signed_abs (s : Bool) (m a : Nat) : (signed s m a).natAbs = m <<< a := by unfold signed; generalize m <<< a = g; split <;> omega
theorem up_sum {k : FloatKind} {s t : Bool} {m n R : Nat} {e j : Int} (h : 1 ≤ R) (be : e ≤ (R : Int) - bias k) (bj : j ≤ (R : Int) - bias k) (bm : m ≤ 2 ^ ((R : Int) - bias k - e).toNat) (bn : n ≤ 2 ^ ((R : Int) - bias k - j).toNat) :
    ∃ d, Datum.sum (.number s m e) (.number t n j) = some d ∧ d.isNaN = false ∧ Up k (k.format.write d) (R + 1) := by
  refine ⟨_, rfl, rfl, ?_⟩
  have hab : ((signed s m (e - min e j).toNat + signed t n (j - min e j).toNat)).natAbs ≤ 2 ^ (((R + 1 : Nat) : Int) - bias k - min e j).toNat := by
    have a1 := signed_abs s m (e - min e j).toNat
    have a2 := signed_abs t n (j - min e j).toNat
    have b1 : m <<< (e - min e j).toNat ≤ 2 ^ ((R : Int) - bias k - min e j).toNat := by
      rw [Nat.shiftLeft_eq]
      have : 2 ^ ((R : Int) - bias k - min e j).toNat = 2 ^ ((R : Int) - bias k - e).toNat * 2 ^ (e - min e j).toNat := by rw [← Nat.pow_add]; congr 1 <;> omega
      rw [this]; exact Nat.mul_le_mul_right _ bm
    have b2 : n <<< (j - min e j).toNat ≤ 2 ^ ((R : Int) - bias k - min e j).toNat := by
      rw [Nat.shiftLeft_eq]
      have : 2 ^ ((R : Int) - bias k - min e j).toNat = 2 ^ ((R : Int) - bias k - j).toNat * 2 ^ (j - min e j).toNat := by rw [← Nat.pow_add]; congr 1 <;> omega
      rw [this]; exact Nat.mul_le_mul_right _ bn
    have : 2 ^ (((R + 1 : Nat) : Int) - bias k - min e j).toNat = 2 ^ ((R : Int) - bias k - min e j).toNat * 2 := by rw [← Nat.pow_succ]; congr 1 <;> omega
    rw [this]
    generalize 2 ^ ((R : Int) - bias k - min e j).toNat = P at *
    omega
  obtain ⟨r, hr, hb, _⟩ := nearest_up k (if signed s m (e - min e j).toNat + signed t n (j - min e j).toNat = 0 then s && t else decide (signed s m (e - min e j).toNat + signed t n (j - min e j).toNat < 0)) (E := ((R + 1 : Nat) : Int) - bias k) (by omega) rfl (by omega) hab
  exact ⟨_, r, hr, hb⟩
theorem up_add {k : FloatKind} {x y R : Nat} (hx : Up k x R) (hy : Up k y R) (h : 1 ≤ R) (t : R ≤ 2 * bias k) : Up k (fop .add k x y) (R + 1) := by
  obtain ⟨s, m, e, rx, be, bm, _⟩ := hx.read h t
  obtain ⟨t, n, j, ry, bj, bn, _⟩ := hy.read h t
  obtain ⟨d, hd, hn, hu⟩ := up_sum (s := s) (t := t) h be bj bm bn
  have hf : floatBits .add k x y = some (k.format.write d) := by simp [floatBits, Format.add, rx, ry, hd]
  rw [fop_of hf hn]
  exact hu
theorem up_sub {k : FloatKind} {x y R : Nat} (hx : Up k x R) (hy : Up k y R) (h : 1 ≤ R) (t : R ≤ 2 * bias k) : Up k (fop .sub k x y) (R + 1) := by
  obtain ⟨s, m, e, rx, be, bm, _⟩ := hx.read h t
  obtain ⟨t, n, j, ry, bj, bn, _⟩ := hy.read h t
  obtain ⟨d, hd, hn, hu⟩ := up_sum (s := s) (t := !t) h be bj bm bn
  have hf : floatBits .sub k x y = some (k.format.write d) := by simp [floatBits, Format.sub, rx, ry, hd, Datum.opposite]
  rw [fop_of hf hn]
  exact hu
theorem up_quo {k : FloatKind} {x y R1 R2 R : Nat} (hx : Up k x R1) (hy : Lo k y R2) (h1 : 1 ≤ R1) (h2 : 1 ≤ R2) (t1 : R1 ≤ 2 * bias k) (hR : R + R2 = R1 + bias k) (h0 : 1 ≤ R) : Up k (fop .quo k x y) R := by
  obtain ⟨s, m, e, rx, be, bm, _⟩ := hx.read h1 t1
  obtain ⟨t, n, j, ry, hn, _, bn⟩ := hy.read h2
  obtain ⟨d, hd, hnan, hu⟩ : ∃ d, Datum.quotient (k.format.fractionBits + 2) (.number s m e) (.number t n j) = some d ∧ d.isNaN = false ∧ Up k (k.format.write d) R := by
    unfold Datum.quotient
    simp only [if_neg hn]
    refine ⟨_, rfl, rfl, ?_⟩
    have hmore : k.format.fractionBits + 2 + n.log2 ≤ m.log2 + (k.format.fractionBits + 2 + n.log2 - m.log2) := by omega
    generalize k.format.fractionBits + 2 + n.log2 - m.log2 = more at *
    by_cases hm0 : m = 0
    · subst hm0
      rw [Nat.zero_shiftLeft, Nat.zero_div, Nat.zero_mod]
      have : k.format.write (.number (s ^^ t) (2 * 0 + (0 != 0).toNat) (e - j - more - 1)) = k.format.word (s ^^ t) 0 := by
        show k.format.nearest _ _ _ = _
        unfold Format.nearest
        simp
      rw [this]
      exact ⟨_, 0, rfl, Nat.zero_le _⟩
    · have hm2 : 2 ^ m.log2 ≤ m := Nat.log2_self_le hm0
      have hn2 : 2 ^ n.log2 ≤ n := Nat.log2_self_le hn
      have hmL : m.log2 ≤ ((R1 : Int) - bias k - e).toNat := by
        rcases Nat.lt_or_ge ((R1 : Int) - bias k - e).toNat m.log2 with h | h
        · exfalso
          have : 2 ^ ((R1 : Int) - bias k - e).toNat < 2 ^ m.log2 := Nat.pow_lt_pow_right (by decide) h
          omega
        · exact h
      -- the quotient's digits
      obtain ⟨c, hc⟩ : ∃ c : Nat, (c : Int) = (R1 : Int) - bias k - e + more - n.log2 := ⟨((R1 : Int) - bias k - e + more - n.log2).toNat, by omega⟩
      have hD : m <<< more ≤ 2 ^ c * n := by
        rw [Nat.shiftLeft_eq]
        have e1 : 2 ^ ((R1 : Int) - bias k - e).toNat * 2 ^ more = 2 ^ c * 2 ^ n.log2 := by rw [← Nat.pow_add, ← Nat.pow_add]; congr 1 <;> omega
        calc m * 2 ^ more ≤ 2 ^ ((R1 : Int) - bias k - e).toNat * 2 ^ more := Nat.mul_le_mul_right _ bm
          _ = 2 ^ c * 2 ^ n.log2 := e1
          _ ≤ 2 ^ c * n := Nat.mul_le_mul_left _ hn2
      have hnp : 0 < n := by omega
      have hq : 2 * (m <<< more / n) + (m <<< more % n != 0).toNat ≤ 2 ^ (c + 1) := by
        have h3 := Nat.div_add_mod (m <<< more) n
        generalize m <<< more = D at *
        rw [Nat.pow_succ]
        generalize 2 ^ c = C at *
        rcases Nat.lt_or_ge (D / n) C with hlt | hge
        · cases (D % n != 0) <;> simp <;> omega
        · have h4 : C * n ≤ (D / n) * n := Nat.mul_le_mul_right _ hge
          rw [Nat.mul_comm (D / n)] at h4
          have h5 : D % n = 0 := by omega
          have h6 : D / n = C := by
            have : D = C * n := by omega
            rw [this, Nat.mul_div_cancel _ hnp]
          rw [h5, h6]
          simp
          omega
      obtain ⟨r, hr, hb, _⟩ := nearest_up k (s ^^ t) (m := 2 * (m <<< more / n) + (m <<< more % n != 0).toNat) (e := e - j - more - 1) (E := (R : Int) - bias k) h0 rfl (by omega) (by
        refine Nat.le_trans hq (Nat.pow_le_pow_right (by decide) ?_)
        omega)
      exact ⟨_, r, hr, hb⟩
  have hf : floatBits .quo k x y = some (k.format.write d) := by simp [floatBits, Format.div, rx, ry, hd]
  rw [fop_of hf hnan]
  exact hu
end Go.Proofs.Ytamgekijihpgkaa

/- A 64-bit number narrowed, or made whole, where it fits. Nothing of the dump. -/
namespace Go.Proofs.Ytamgekijihpgkaa
open Go.RowKit Ieee

/-- It fits into 32 bits (or is an infinity, or a NaN). -/
def nfit (b : Nat) : Bool := match double.read b with
  | .number s m e => !(single.read (single.write (.number s m e))).isInfinity
  | _ => true
/-- A 64-bit number as a 32-bit one. -/
def n32 (x : Nat) : Nat := if isN .f64 x then qn .f32 else single.write (double.read x)
def nres (x : Nat) (w : World) : Nat := if isN .f64 x then (Question.nanConv .f32 x).cut (w.tape w.drawn (.nanConv .f32 x)) else single.write (double.read x)
def ndr (x : Nat) : Nat := if isN .f64 x then 1 else 0
@[go_sem] theorem cn_nres (x : Nat) (w : World) : cn .f32 (nres x w) = n32 (cn .f64 x) := by
  unfold nres n32
  rw [isN_cn]
  cases h : isN .f64 x
  · simp only [Bool.false_eq_true, if_false]
    rw [cn_of_not h]
    exact cn_of_not (isN_write .f32 _ h)
  · simp only [if_true]
    exact cn_of_nan (nan_conv _ _ _)
theorem nfit_cn (x : Nat) : nfit (cn .f64 x) = nfit x := by
  cases h : isN .f64 x
  · rw [cn_of_not h]
  · rw [cn_of_nan h]
    obtain ⟨s, t, hr⟩ := read_nan h
    have e : nfit (qn .f64) = true := by decide +kernel
    rw [e]
    unfold nfit
    rw [show double.read x = .nan s t from hr]
theorem run_narrow {P : Program} (w : World) (src dst : TypeId) (x : Nat) (hs : (P.underlying src).isSome = true) (hd : P.underlying dst = some (.float .f32)) (hf : nfit x = true) :
    (convert src dst (.float .f64 x)).run P w = .ok (.float .f32 (nres x w)) (w.drewN (ndr x)) := by
  obtain ⟨s, hs'⟩ := Option.isSome_iff_exists.1 hs
  have h : (Conv.floatToFloat .f64 x .f32).run P w = .ok (.float .f32 (nres x w)) (w.drewN (ndr x)) := by
    unfold Conv.floatToFloat nres ndr isN
    unfold nfit at hf
    show Sem.run P (match double.read x with | _ => _) w = _
    cases hr : double.read x with
    | nan a b => simp [FloatKind.decode, FloatKind.format, hr, Datum.isNaN, choose, Sem.run, Question.forced, World.drewN]
    | infinity a => simp [FloatKind.decode, FloatKind.format, FloatKind.encode, hr, Datum.isNaN, World.drewN]
    | number a m e =>
      rw [hr] at hf
      simp at hf
      simp [FloatKind.decode, FloatKind.format, FloatKind.encode, hr, Datum.isNaN, World.drewN, hf]
  cases s <;> simp [convert, run_underlying hs', run_underlying hd, h]
theorem run_whole {P : Program} (w : World) (src dst : TypeId) (x : Nat) (n : Int) (hs : (P.underlying src).isSome = true) (hd : P.underlying dst = some (.int .i64)) (hn : (double.read x).toInt .zero = some n) (h0 : -9223372036854775808 ≤ n) (h1 : n ≤ 9223372036854775807) :
    (convert src dst (.float .f64 x)).run P w = .ok (.int .i64 n) w := by
  obtain ⟨s, hs'⟩ := Option.isSome_iff_exists.1 hs
  have h : (Conv.floatToInt .f64 x .i64).run P w = .ok (.int .i64 n) w := by
    unfold Conv.floatToInt
    show Sem.run P (match (double.read x).toInt .zero with | _ => _) w = _
    have e0 : IntKind.i64.min = -9223372036854775808 := by decide
    have e1 : IntKind.i64.max = 9223372036854775807 := by decide
    simp [FloatKind.decode, FloatKind.format, hn, e0, e1, h0, h1]
  cases s <;> simp [convert, run_underlying hs', run_underlying hd, h]
end Go.Proofs.Ytamgekijihpgkaa

/- Positive numbers between powers of two; what fits into 32 bits. Plain: nothing of the dump. -/
namespace Go.Proofs.Ytamgekijihpgkaa
open Ieee

/-- A positive number from 2 to the power of lo - bias to 2 to the power of hi - bias. -/
def In (k : FloatKind) (b lo hi : Nat) : Prop := lo * k.format.binade ≤ b ∧ b ≤ hi * k.format.binade
theorem In.weak {k : FloatKind} {b lo hi lo' hi' : Nat} (h : In k b lo hi) (h1 : lo' ≤ lo) (h2 : hi ≤ hi') : In k b lo' hi' :=
  ⟨Nat.le_trans (Nat.mul_le_mul_right _ h1) h.1, Nat.le_trans h.2 (Nat.mul_le_mul_right _ h2)⟩
theorem In.lt {k : FloatKind} {b lo hi : Nat} (h : In k b lo hi) (hT : hi ≤ 2 * bias k) : b < k.format.infRung := by
  have hI := inf_eq k
  have hB := binade_pos k.format
  have : hi * k.format.binade ≤ (2 * bias k) * k.format.binade := Nat.mul_le_mul_right _ hT
  have := h.2
  rw [Nat.add_mul] at hI
  omega
theorem In.up {k : FloatKind} {b lo hi : Nat} (h : In k b lo hi) : Up k b hi := ⟨false, b, rfl, h.2⟩
theorem In.lo {k : FloatKind} {b lo hi : Nat} (h : In k b lo hi) (hT : hi ≤ 2 * bias k) : Lo k b lo := ⟨false, b, rfl, h.1, h.lt hT⟩
theorem In.num {k : FloatKind} {b lo hi : Nat} (h : In k b lo hi) (hT : hi ≤ 2 * bias k) : isN k b = false := by
  have := h.lt hT
  have h2 := isN_word k false (r := b) (Nat.lt_trans this (infRung_lt' k))
  have h3 : k.format.word false b = b := rfl
  rw [h3] at h2
  rw [h2]
  simp; omega
theorem read_neg' (k : FloatKind) (x : Nat) : (k.format.read x).neg = (x / k.format.signWeight % 2 == 1) := by
  unfold Format.read
  dsimp only
  split
  · rfl
  · split
    · rfl
    · split <;> rfl
theorem In.read {k : FloatKind} {b lo hi : Nat} (h : In k b lo hi) (h1 : 1 ≤ lo) (hT : hi ≤ 2 * bias k) :
    ∃ m e, k.format.read b = .number false m e ∧ m ≠ 0 ∧ (lo : Int) - bias k ≤ e + m.log2 ∧ e ≤ (hi : Int) - bias k ∧ m ≤ 2 ^ ((hi : Int) - bias k - e).toNat := by
  have hlt := h.lt hT
  have hle : lo ≤ hi := by
    have hB := binade_pos k.format
    rcases Nat.lt_or_ge hi lo with h' | h'
    · have h2 : (hi + 1) * k.format.binade ≤ lo * k.format.binade := Nat.mul_le_mul_right _ h'
      have := h.1
      have := h.2
      rw [Nat.add_mul] at h2
      omega
    · exact h'
  obtain ⟨s, m, e, hr, he, hm, _⟩ := h.up.read (by omega) hT
  obtain ⟨s', m', e', hr', hm', _, hl⟩ := (h.lo hT).read h1
  rw [hr] at hr'
  injection hr' with _ a b'
  subst a; subst b'
  have hn := read_neg' k b
  rw [hr] at hn
  have hs : s = false := by
    have : s = (b / k.format.signWeight % 2 == 1) := hn
    rw [this, Nat.div_eq_of_lt (Nat.lt_trans hlt (infRung_lt' k))]
    rfl
  subst hs
  exact ⟨m, e, hr, hm', hl, he, hm⟩
theorem in_word {k : FloatKind} {r lo hi : Nat} {b : Nat} (h : b = k.format.word false r) (h1 : lo * k.format.binade ≤ r) (h2 : r ≤ hi * k.format.binade) : In k b lo hi := by
  subst h
  exact ⟨h1, h2⟩
/-- What is written of a positive number. -/
theorem in_write (k : FloatKind) {m : Nat} {e : Int} {lo hi : Nat} (hm : m ≠ 0) (h1 : 1 ≤ lo) (hl : (lo : Int) - bias k ≤ e + m.log2) (hi0 : lo ≤ 2 * bias k + 1) (he : e ≤ (hi : Int) - bias k) (hu : m ≤ 2 ^ ((hi : Int) - bias k - e).toNat) (h2 : 1 ≤ hi) :
    In k (k.format.write (.number false m e)) lo hi := by
  obtain ⟨r, hr, hb, _⟩ := nearest_up k false (m := m) (e := e) (E := (hi : Int) - bias k) h2 rfl he hu
  obtain ⟨r', hr', hb'⟩ := nearest_lo k false (m := m) (e := e) h1 hm hl hi0
  have e1 : k.format.word false r = r := rfl
  have e2 : k.format.word false r' = r' := rfl
  have : r = r' := by rw [← e1, ← e2, ← hr, ← hr']
  subst this
  exact in_word hr hb' hb
theorem log2_mul_ge {m n : Nat} (hm : m ≠ 0) (hn : n ≠ 0) : m.log2 + n.log2 ≤ (m * n).log2 := by
  apply (Nat.le_log2 (Nat.mul_ne_zero hm hn)).2
  rw [Nat.pow_add]
  exact Nat.mul_le_mul (Nat.log2_self_le hm) (Nat.log2_self_le hn)
theorem in_mul {k : FloatKind} {x y a1 b1 a2 b2 a b : Nat} (hx : In k x a1 b1) (hy : In k y a2 b2) (h1 : 1 ≤ a1) (h2 : 1 ≤ a2) (t1 : b1 ≤ 2 * bias k) (t2 : b2 ≤ 2 * bias k) (ha : a + bias k = a1 + a2) (hb : b + bias k = b1 + b2) (h0 : 1 ≤ a) (h9 : b ≤ 2 * bias k) :
    In k (fop .mul k x y) a b := by
  have l1 := Nat.le_of_mul_le_mul_right (Nat.le_trans hx.1 hx.2) (binade_pos k.format)
  have l2 := Nat.le_of_mul_le_mul_right (Nat.le_trans hy.1 hy.2) (binade_pos k.format)
  obtain ⟨m, e, rx, m0, el, eu, mu⟩ := hx.read h1 t1
  obtain ⟨n, j, ry, n0, jl, ju, nu⟩ := hy.read h2 t2
  have hf : floatBits .mul k x y = some (k.format.write (.number false (m * n) (e + j))) := by
    simp [floatBits, Format.mul, rx, ry, Datum.product]
  rw [fop_of hf rfl]
  have hlog := log2_mul_ge m0 n0
  refine in_write k (Nat.mul_ne_zero m0 n0) h0 (by omega) (by omega) (by omega) ?_ (by omega)
  have : 2 ^ ((b : Int) - bias k - (e + j)).toNat = 2 ^ ((b1 : Int) - bias k - e).toNat * 2 ^ ((b2 : Int) - bias k - j).toNat := by rw [← Nat.pow_add]; congr 1 <;> omega
  rw [this]
  exact Nat.mul_le_mul mu nu
theorem in_quo {k : FloatKind} {x y a1 b1 a2 b2 a b : Nat} (hx : In k x a1 b1) (hy : In k y a2 b2) (h1 : 1 ≤ a1) (h2 : 1 ≤ a2) (t1 : b1 ≤ 2 * bias k) (t2 : b2 ≤ 2 * bias k) (ha : a + b2 = a1 + bias k) (hb : b + a2 = b1 + bias k) (h0 : 1 ≤ a) (h9 : b ≤ 2 * bias k) :
    In k (fop .quo k x y) a b := by
  have l1 := Nat.le_of_mul_le_mul_right (Nat.le_trans hx.1 hx.2) (binade_pos k.format)
  have l2 := Nat.le_of_mul_le_mul_right (Nat.le_trans hy.1 hy.2) (binade_pos k.format)
  obtain ⟨s, r, er, hr⟩ := up_quo hx.up (hy.lo t2) (by omega) h2 t1 hb (by omega)
  obtain ⟨m, e, rx, m0, el, eu, mu⟩ := hx.read h1 t1
  obtain ⟨n, j, ry, n0, jl, ju, nu⟩ := hy.read h2 t2
  have hf : ∃ Q more : Nat, floatBits .quo k x y = some (k.format.write (.number false Q (e - j - more - 1))) ∧ Q ≠ 0 ∧ (e + m.log2 - b2 + bias k : Int) ≤ (e - j - more - 1) + Q.log2 := by
    refine ⟨2 * (m <<< (k.format.fractionBits + 2 + n.log2 - m.log2) / n) + (m <<< (k.format.fractionBits + 2 + n.log2 - m.log2) % n != 0).toNat, k.format.fractionBits + 2 + n.log2 - m.log2, by simp [floatBits, Format.div, rx, ry, Datum.quotient, n0], ?_⟩
    have hmore : k.format.fractionBits + 2 + n.log2 ≤ m.log2 + (k.format.fractionBits + 2 + n.log2 - m.log2) := by omega
    generalize k.format.fractionBits + 2 + n.log2 - m.log2 = more at *
    have hm2 : 2 ^ m.log2 ≤ m := Nat.log2_self_le m0
    have hn2 : n < 2 ^ (n.log2 + 1) := Nat.lt_log2_self
    have hn3 : 2 ^ n.log2 ≤ n := Nat.log2_self_le n0
    have hnp : 0 < n := by omega
    -- a lower bound of the digits
    have key : ∀ t : Nat, n ≤ 2 ^ t → t ≤ m.log2 + more → 2 ^ (m.log2 + more - t) ≤ m <<< more / n := by
      intro t hn ht
      apply (Nat.le_div_iff_mul_le hnp).2
      rw [Nat.shiftLeft_eq]
      calc 2 ^ (m.log2 + more - t) * n ≤ 2 ^ (m.log2 + more - t) * 2 ^ t := Nat.mul_le_mul_left _ hn
        _ = 2 ^ m.log2 * 2 ^ more := by rw [← Nat.pow_add, ← Nat.pow_add]; congr 1 <;> omega
        _ ≤ m * 2 ^ more := Nat.mul_le_mul_right _ hm2
    have fin : ∀ t : Nat, n ≤ 2 ^ t → t ≤ m.log2 + more → (j + t : Int) ≤ (b2 : Int) - bias k → (2 * (m <<< more / n) + (m <<< more % n != 0).toNat ≠ 0 ∧ (e + m.log2 - b2 + bias k : Int) ≤ (e - j - more - 1) + (2 * (m <<< more / n) + (m <<< more % n != 0).toNat).log2) := by
      intro t hn ht hj
      have hk := key t hn ht
      have hp : 0 < 2 ^ (m.log2 + more - t) := Nat.two_pow_pos _
      have hQ : 2 ^ (m.log2 + more - t + 1) ≤ 2 * (m <<< more / n) + (m <<< more % n != 0).toNat := by rw [Nat.pow_succ]; omega
      generalize 2 * (m <<< more / n) + (m <<< more % n != 0).toNat = Q at *
      have hp1 : 0 < 2 ^ (m.log2 + more - t + 1) := Nat.two_pow_pos _
      have hQ0 : Q ≠ 0 := by omega
      have := (Nat.le_log2 hQ0).2 hQ
      exact ⟨hQ0, by omega⟩
    rcases Nat.lt_or_ge (2 ^ n.log2) n with hgt | hle
    · have hb2 : n.log2 + 1 ≤ ((b2 : Int) - bias k - j).toNat := by
        rcases Nat.lt_or_ge ((b2 : Int) - bias k - j).toNat (n.log2 + 1) with h | h
        · exfalso
          have : 2 ^ ((b2 : Int) - bias k - j).toNat ≤ 2 ^ n.log2 := Nat.pow_le_pow_right (by decide) (by omega)
          omega
        · exact h
      exact fin (n.log2 + 1) (Nat.le_of_lt hn2) (by omega) (by omega)
    · have hb2 : n.log2 ≤ ((b2 : Int) - bias k - j).toNat := by
        rcases Nat.lt_or_ge ((b2 : Int) - bias k - j).toNat n.log2 with h | h
        · exfalso
          have : 2 ^ ((b2 : Int) - bias k - j).toNat < 2 ^ n.log2 := Nat.pow_lt_pow_right (by decide) h
          omega
        · exact h
      exact fin n.log2 hle (by omega) (by omega)
  obtain ⟨Q, more, hf, hQ0, hQ⟩ := hf
  rw [fop_of hf rfl] at er ⊢
  obtain ⟨r', hr', hb'⟩ := nearest_lo k false (m := Q) (e := e - j - more - 1) (R := a) h0 hQ0 (by omega) (by omega)
  obtain ⟨r2, h2', e2⟩ := nearest_word k.format false Q (e - j - more - 1)
  have hsw := infRung_lt' k
  have e0 : k.format.write (.number false Q (e - j - more - 1)) = r2 := e2
  have e1 : r' = r2 := hr'.symm.trans e2
  rw [e0] at er ⊢
  subst e1
  cases s
  · exact ⟨hb', by rw [er]; exact hr⟩
  · exfalso
    have : r' = k.format.signWeight + r := er
    omega
theorem in_add {k : FloatKind} {x y a1 a2 b : Nat} (hx : In k x a1 b) (hy : In k y a2 b) (h1 : 1 ≤ a1) (h2 : 1 ≤ a2) (t : b + 1 ≤ 2 * bias k) : In k (fop .add k x y) a1 (b + 1) := by
  have l1 := Nat.le_of_mul_le_mul_right (Nat.le_trans hx.1 hx.2) (binade_pos k.format)
  obtain ⟨m, e, rx, m0, el, eu, mu⟩ := hx.read h1 (by omega)
  obtain ⟨n, j, ry, n0, jl, ju, nu⟩ := hy.read h2 (by omega)
  have hpos : 0 < m <<< (e - min e j).toNat := by rw [Nat.shiftLeft_eq]; exact Nat.mul_pos (by omega) (Nat.two_pow_pos _)
  have sg : ∀ m a, signed false m a = ((m <<< a : Nat) : Int) := fun m a => by unfold signed; rfl
  have b1 : m <<< (e - min e j).toNat ≤ 2 ^ ((b : Int) - bias k - min e j).toNat := by
    rw [Nat.shiftLeft_eq]
    have : 2 ^ ((b : Int) - bias k - min e j).toNat = 2 ^ ((b : Int) - bias k - e).toNat * 2 ^ (e - min e j).toNat := by rw [← Nat.pow_add]; congr 1 <;> omega
    rw [this]; exact Nat.mul_le_mul_right _ mu
  have b2 : n <<< (j - min e j).toNat ≤ 2 ^ ((b : Int) - bias k - min e j).toNat := by
    rw [Nat.shiftLeft_eq]
    have : 2 ^ ((b : Int) - bias k - min e j).toNat = 2 ^ ((b : Int) - bias k - j).toNat * 2 ^ (j - min e j).toNat := by rw [← Nat.pow_add]; congr 1 <;> omega
    rw [this]; exact Nat.mul_le_mul_right _ nu
  have hl : 2 ^ (m.log2 + (e - min e j).toNat) ≤ m <<< (e - min e j).toNat := by
    rw [Nat.pow_add, Nat.shiftLeft_eq]
    exact Nat.mul_le_mul_right _ (Nat.log2_self_le m0)
  have hs : Datum.sum (.number false m e) (.number false n j) = some (.number false (m <<< (e - min e j).toNat + n <<< (j - min e j).toNat) (min e j)) := by
    unfold Datum.sum
    simp only [sg]
    generalize m <<< (e - min e j).toNat = U at *
    generalize n <<< (j - min e j).toNat = V at *
    have h3 : ¬ ((U : Int) + (V : Int)) = 0 := by omega
    have h4 : ¬ ((U : Int) + (V : Int)) < 0 := by omega
    rw [if_neg h3, decide_eq_false h4]
    congr 2
  have hf : floatBits .add k x y = some (k.format.write (.number false (m <<< (e - min e j).toNat + n <<< (j - min e j).toNat) (min e j))) := by simp [floatBits, Format.add, rx, ry, hs]
  rw [fop_of hf rfl]
  clear hf hs
  generalize m <<< (e - min e j).toNat = U at *
  generalize n <<< (j - min e j).toNat = V at *
  have hU : U + V ≠ 0 := by omega
  have hl2 : m.log2 + (e - min e j).toNat ≤ (U + V).log2 := (Nat.le_log2 hU).2 (by omega)
  refine in_write k hU h1 (by omega) (by omega) (by omega) ?_ (by omega)
  have : 2 ^ (((b + 1 : Nat) : Int) - bias k - min e j).toNat = 2 ^ ((b : Int) - bias k - min e j).toNat * 2 := by rw [← Nat.pow_succ]; congr 1 <;> omega
  rw [this]
  omega

/-- A number that is not too great fits into 32 bits. -/
theorem Up.fit {b R : Nat} (h : Up .f64 b R) (h1 : 897 ≤ R) (h2 : R ≤ 1149) : nfit b = true := by
  have b64 : bias .f64 = 1023 := rfl
  have b32 : bias .f32 = 127 := rfl
  obtain ⟨s, m, e, hr, he, hm, _⟩ := h.read (by omega) (by omega)
  unfold nfit
  rw [show double.read b = .number s m e from hr]
  obtain ⟨r, hr', hb, hi⟩ := nearest_up .f32 s (m := m) (e := e) (R := R - 896) (by omega) rfl (by omega) (by
    have : ((R - 896 : Nat) : Int) - bias .f32 - e = (R : Int) - bias .f64 - e := by omega
    rw [this]; exact hm)
  have e0 : single.write (.number s m e) = single.word s r := hr'
  have hlt : r < single.infRung := by
    have hI : single.infRung = 2139095040 := by decide
    have hB : FloatKind.f32.format.binade = 8388608 := by decide
    rw [hB] at hb
    rw [hI]
    omega
  show (!(single.read (single.write (.number s m e))).isInfinity) = true
  rw [e0, (read_word single s (Nat.le_of_lt hlt) (infRung_lt' .f32)).2 hlt]
  rfl
end Go.Proofs.Ytamgekijihpgkaa
