/- Rounding against powers of two: how great a sum, a product, a quotient can be. Plain: nothing of the dump. -/
import Derived.Test.YtdodmfojbbmbdaaRung
namespace Go.Proofs.Ytdodmfojbbmbdaa
open Ieee

theorem cut_le {neg : Bool} {n drop c : Nat} (h : n ≤ c * 2 ^ drop) : Toward.even.cut neg n drop ≤ c := by
  unfold Toward.cut
  have hp : 0 < 2 ^ (min drop (n.log2 + 2)) := Nat.two_pow_pos _
  simp only [Nat.shiftLeft_eq, Nat.one_mul]
  by_cases hm : drop ≤ n.log2 + 2
  · rw [Nat.min_eq_left hm] at hp ⊢
    generalize 2 ^ drop = g at *
    have h1 := Nat.div_add_mod n g
    rcases Nat.lt_or_ge (n / g) c with hlt | hge
    · cases (decide (g < 2 * (n % g)) || g == 2 * (n % g) && n / g % 2 == 1) <;> simp <;> omega
    · have h2 : c * g ≤ (n / g) * g := Nat.mul_le_mul_right _ hge
      rw [Nat.mul_comm (n / g)] at h2
      have h3 : n % g = 0 := by omega
      have h4 : n / g = c := by
        have : n = c * g := by omega
        rw [this, Nat.mul_div_cancel _ hp]
      rw [h3, h4]
      have h5 : (g == 0) = false := by simpa using (by omega : ¬ g = 0)
      simp [h5]
  · rw [Nat.min_eq_right (by omega)] at hp ⊢
    have h1 : n < 2 ^ (n.log2 + 1) := Nat.lt_log2_self
    rw [Nat.pow_succ] at hp ⊢
    generalize 2 ^ (n.log2 + 1) = g at *
    have h2 : n / (g * 2) = 0 := Nat.div_eq_of_lt (by omega)
    have h3 : n % (g * 2) = n := Nat.mod_eq_of_lt (by omega)
    have h4 : ¬ g * 2 < 2 * n := by omega
    simp [h2, h3, h4]
theorem cut_ge {neg : Bool} {n drop c : Nat} (h : c * 2 ^ drop ≤ n) : c ≤ Toward.even.cut neg n drop := by
  unfold Toward.cut
  simp only [Nat.shiftLeft_eq, Nat.one_mul]
  by_cases hm : drop ≤ n.log2 + 2
  · rw [Nat.min_eq_left hm]
    have := (Nat.le_div_iff_mul_le (Nat.two_pow_pos drop)).2 h
    omega
  · have h1 : n < 2 ^ (n.log2 + 1) := Nat.lt_log2_self
    have h2 : 2 ^ (n.log2 + 1) ≤ 2 ^ drop := Nat.pow_le_pow_right (by decide) (by omega)
    have h3 : c = 0 := by
      rcases Nat.eq_zero_or_pos c with h0 | h0
      · exact h0
      · have : 1 * 2 ^ drop ≤ c * 2 ^ drop := Nat.mul_le_mul_right _ h0
        omega
    rw [h3]
    exact Nat.zero_le _

def bias (k : FloatKind) : Nat := match k with | .f32 => 127 | .f64 => 1023
theorem lp_eq (k : FloatKind) : k.format.leastPlace = 1 - (k.format.fractionBits : Int) - (bias k : Int) := by cases k <;> decide
theorem inf_eq (k : FloatKind) : k.format.infRung = (2 * bias k + 1) * k.format.binade := by cases k <;> decide
theorem fb_pos (k : FloatKind) : 0 < k.format.fractionBits := by cases k <;> decide

/-- The number is at most 2 to the power of R - bias, of whatever sign. -/
def Up (k : FloatKind) (b R : Nat) : Prop := ∃ s r, b = k.format.word s r ∧ r ≤ R * k.format.binade
/-- The number is at least 2 to the power of R - bias, of whatever sign, and no infinity. -/
def Lo (k : FloatKind) (b R : Nat) : Prop := ∃ s r, b = k.format.word s r ∧ R * k.format.binade ≤ r ∧ r < k.format.infRung

theorem Up.weak {k : FloatKind} {b R R' : Nat} (h : Up k b R) (hR : R ≤ R') : Up k b R' := by
  obtain ⟨s, r, e, h⟩ := h
  exact ⟨s, r, e, Nat.le_trans h (Nat.mul_le_mul_right _ hR)⟩

theorem nearest_up (k : FloatKind) (neg : Bool) {m : Nat} {e E : Int} {R : Nat} (hR : 1 ≤ R) (hE : E = (R : Int) - bias k) (he : e ≤ E) (hm : m ≤ 2 ^ (E - e).toNat) :
    ∃ r, k.format.nearest neg m e = k.format.word neg r ∧ r ≤ R * k.format.binade ∧ r ≤ k.format.infRung := by
  have hlp := lp_eq k
  have hB := binade_pos k.format
  unfold Format.nearest
  by_cases h0 : m = 0
  · rw [if_pos h0]; exact ⟨0, rfl, Nat.zero_le _, Nat.zero_le _⟩
  · rw [if_neg h0]
    refine ⟨_, rfl, ?_, Nat.min_le_right _ _⟩
    apply Nat.le_trans (Nat.min_le_left _ _)
    generalize k.format.leastPlace = lp at *
    have hBd : k.format.binade = 2 ^ k.format.fractionBits := rfl
    generalize k.format.binade = B at *
    generalize k.format.fractionBits = fb at *
    have hL : 2 ^ m.log2 ≤ m := Nat.log2_self_le h0
    have hL2 : m < 2 ^ (m.log2 + 1) := Nat.lt_log2_self
    have hLE : m.log2 ≤ (E - e).toNat := by
      rcases Nat.lt_or_ge (E - e).toNat m.log2 with h | h
      · exfalso
        have : 2 ^ (E - e).toNat < 2 ^ m.log2 := Nat.pow_lt_pow_right (by decide) h
        omega
      · exact h
    generalize m.log2 = L at *
    obtain ⟨q, hq⟩ : ∃ q : Nat, max (e + (L : Int) - fb) lp = lp + q := ⟨(max (e + (L : Int) - fb) lp - lp).toNat, by omega⟩
    rw [hq]
    have hqR : q + 1 ≤ R := by omega
    have e1 : (lp + (q : Int) - lp).toNat = q := by omega
    rw [e1]
    -- the kept digits
    have key : ∀ c t : Nat, c = 2 ^ t → m ≤ 2 ^ (t + (lp + q - e)).toNat → 0 ≤ t + (lp + q - e) → Toward.even.cut neg (m <<< (e - (lp + (q : Int))).toNat) (lp + (q : Int) - e).toNat ≤ c := by
      intro c t hc hmt ht
      apply cut_le
      rw [Nat.shiftLeft_eq, hc, ← Nat.pow_add]
      rcases Int.le_total e (lp + q) with h | h
      · rw [show (e - (lp + (q : Int))).toNat = 0 by omega, Nat.pow_zero, Nat.mul_one, show t + (lp + (q : Int) - e).toNat = (t + (lp + q - e)).toNat by omega]
        exact hmt
      · rw [show (lp + (q : Int) - e).toNat = 0 by omega, Nat.add_zero]
        have : 2 ^ t = 2 ^ (t + (lp + q - e)).toNat * 2 ^ (e - (lp + (q : Int))).toNat := by rw [← Nat.pow_add]; congr 1 <;> omega
        rw [this]
        exact Nat.mul_le_mul_right _ hmt
    rcases Nat.lt_or_ge (q + 1) R with h | h
    · have h2 : m ≤ 2 ^ (((fb + 1 : Nat) : Int) + (lp + q - e)).toNat := Nat.le_trans (Nat.le_of_lt hL2) (Nat.pow_le_pow_right (by decide) (by omega))
      have := key (2 * B) (fb + 1) (by rw [hBd, Nat.pow_succ, Nat.mul_comm]) h2 (by omega)
      have h3 : (q + 2) * B ≤ R * B := Nat.mul_le_mul_right _ h
      rw [Nat.add_mul] at h3
      omega
    · have hRq : R = q + 1 := by omega
      have h2 : m ≤ 2 ^ ((fb : Int) + (lp + q - e)).toNat := by
        rw [show ((fb : Int) + (lp + q - e)).toNat = (E - e).toNat by omega]; exact hm
      have := key B fb hBd h2 (by omega)
      rw [hRq, Nat.add_mul]
      omega
theorem nearest_lo (k : FloatKind) (neg : Bool) {m : Nat} {e : Int} {R : Nat} (hR : 1 ≤ R) (hm : m ≠ 0) (hE : (R : Int) - bias k ≤ e + m.log2) (hi : R ≤ 2 * bias k + 1) :
    ∃ r, k.format.nearest neg m e = k.format.word neg r ∧ R * k.format.binade ≤ r := by
  have hlp := lp_eq k
  have hB := binade_pos k.format
  have hI := inf_eq k
  unfold Format.nearest
  rw [if_neg hm]
  refine ⟨_, rfl, ?_⟩
  apply Nat.le_min.2
  refine ⟨?_, by rw [hI]; exact Nat.mul_le_mul_right _ hi⟩
  generalize k.format.leastPlace = lp at *
  have hBd : k.format.binade = 2 ^ k.format.fractionBits := rfl
  generalize k.format.binade = B at *
  generalize k.format.fractionBits = fb at *
  have hL : 2 ^ m.log2 ≤ m := Nat.log2_self_le hm
  generalize m.log2 = L at *
  have hq : max (e + (L : Int) - fb) lp = e + L - fb := by omega
  rw [hq]
  have hc : B ≤ Toward.even.cut neg (m <<< (e - (e + (L : Int) - fb)).toNat) (e + (L : Int) - fb - e).toNat := by
    apply cut_ge
    rw [Nat.shiftLeft_eq, hBd, ← Nat.pow_add]
    have : 2 ^ (fb + (e + (L : Int) - fb - e).toNat) = 2 ^ L * 2 ^ (e - (e + (L : Int) - fb)).toNat := by rw [← Nat.pow_add]; congr 1 <;> omega
    rw [this]
    exact Nat.mul_le_mul_right _ hL
  have h3 : R * B ≤ ((e + (L : Int) - fb - lp).toNat + 1) * B := Nat.mul_le_mul_right _ (by omega)
  rw [Nat.add_mul] at h3
  omega

/-- What is read of a number that is not greater. -/
theorem Up.read {k : FloatKind} {b R : Nat} (h : Up k b R) (hR : 1 ≤ R) (hT : R ≤ 2 * bias k) : ∃ s m e, k.format.read b = .number s m e ∧ e ≤ (R : Int) - bias k ∧ m ≤ 2 ^ ((R : Int) - bias k - e).toNat ∧ k.format.leastPlace ≤ e := by
  obtain ⟨s, r, rfl, hr⟩ := h
  have hlp := lp_eq k
  have hB := binade_pos k.format
  have hI := inf_eq k
  have hfb := fb_pos k
  have hlt : r < k.format.infRung := by
    rw [hI]
    have : R * k.format.binade ≤ (2 * bias k) * k.format.binade := Nat.mul_le_mul_right _ hT
    rw [Nat.add_mul]
    omega
  have h1 := rung_word k.format s (Nat.lt_trans hlt (infRung_lt' k))
  have h2 := word_neg k.format s (Nat.lt_trans hlt (infRung_lt' k))
  unfold Format.read
  simp only [h1, h2]
  have hBd : k.format.binade = 2 ^ k.format.fractionBits := rfl
  rcases rung_split k.format r with h | ⟨q, t, hq, ht⟩
  · rw [if_pos h]
    refine ⟨s, r, _, rfl, by omega, ?_, Int.le_refl _⟩
    apply Nat.le_trans (Nat.le_of_lt h)
    rw [hBd]
    exact Nat.pow_le_pow_right (by decide) (by omega)
  · have hge : ¬ r < k.format.binade := by rw [hq, Nat.add_mul]; omega
    rw [if_neg hge, if_pos hlt]
    have hmod : r % k.format.binade = t := by rw [hq, Nat.mul_comm, Nat.mul_add_mod, Nat.mod_eq_of_lt ht]
    have hdiv : r / k.format.binade = q + 1 := by rw [hq, Nat.mul_comm, Nat.mul_add_div hB, Nat.div_eq_of_lt ht]
    rw [hmod, hdiv]
    have hqR : q + 1 ≤ R := by
      rcases Nat.lt_or_ge R (q + 1) with h | h
      · have : (R + 1) * k.format.binade ≤ (q + 1) * k.format.binade := Nat.mul_le_mul_right _ h
        rw [Nat.add_mul] at this
        omega
      · exact h
    refine ⟨s, _, _, rfl, by omega, ?_, by omega⟩
    rcases Nat.lt_or_ge (q + 1) R with h | h
    · have : k.format.binade + t ≤ 2 ^ (k.format.fractionBits + 1) := by rw [Nat.pow_succ, ← hBd]; omega
      exact Nat.le_trans this (Nat.pow_le_pow_right (by decide) (by omega))
    · have hRq : R = q + 1 := by omega
      have ht0 : t = 0 := by rw [hRq] at hr; omega
      rw [ht0, Nat.add_zero, hBd]
      exact Nat.pow_le_pow_right (by decide) (by omega)
theorem Lo.read {k : FloatKind} {b R : Nat} (h : Lo k b R) (hR : 1 ≤ R) : ∃ s m e, k.format.read b = .number s m e ∧ m ≠ 0 ∧ m.log2 ≤ k.format.fractionBits ∧ (R : Int) - bias k ≤ e + m.log2 := by
  obtain ⟨s, r, rfl, hr, hlt⟩ := h
  have hlp := lp_eq k
  have hB := binade_pos k.format
  have h1 := rung_word k.format s (Nat.lt_trans hlt (infRung_lt' k))
  have h2 := word_neg k.format s (Nat.lt_trans hlt (infRung_lt' k))
  unfold Format.read
  simp only [h1, h2]
  have hBd : k.format.binade = 2 ^ k.format.fractionBits := rfl
  have hR1 : 1 * k.format.binade ≤ R * k.format.binade := Nat.mul_le_mul_right _ hR
  rcases rung_split k.format r with h | ⟨q, t, hq, ht⟩
  · omega
  · rw [if_neg (by omega), if_pos hlt]
    have hmod : r % k.format.binade = t := by rw [hq, Nat.mul_comm, Nat.mul_add_mod, Nat.mod_eq_of_lt ht]
    have hdiv : r / k.format.binade = q + 1 := by rw [hq, Nat.mul_comm, Nat.mul_add_div hB, Nat.div_eq_of_lt ht]
    rw [hmod, hdiv]
    have hqR : R ≤ q + 1 := by
      rcases Nat.lt_or_ge (q + 1) R with h | h
      · have : (q + 1 + 1) * k.format.binade ≤ R * k.format.binade := Nat.mul_le_mul_right _ h
        rw [Nat.add_mul (q + 1)] at this
        omega
      · exact h
    have hne : k.format.binade + t ≠ 0 := by omega
    have hlog : (k.format.binade + t).log2 = k.format.fractionBits := (Nat.log2_eq_iff hne).2 ⟨by rw [← hBd]; omega, by rw [Nat.pow_succ, ← hBd]; omega⟩
    exact ⟨s, _, _, rfl, hne, by omega, by omega⟩

/-- Where a NaN is not in question: the operation's result. -/
theorem fop_of {op : BinOp} {k : FloatKind} {x y : Nat} {d : Datum} (h : floatBits op k x y = some (k.format.write d)) (hd : d.isNaN = false) : fop op k x y = k.format.write d := by
  unfold fop
  rw [h]
  exact cn_of_not (isN_write k d hd)
theorem up_mul {k : FloatKind} {x y R1 R2 R : Nat} (hx : Up k x R1) (hy : Up k y R2) (h1 : 1 ≤ R1) (h2 : 1 ≤ R2) (t1 : R1 ≤ 2 * bias k) (t2 : R2 ≤ 2 * bias k) (hR : R + bias k = R1 + R2) (h0 : 1 ≤ R) : Up k (fop .mul k x y) R := by
  obtain ⟨s, m, e, rx, be, bm, _⟩ := hx.read h1 t1
  obtain ⟨t, n, j, ry, bj, bn, _⟩ := hy.read h2 t2
  have hf : floatBits .mul k x y = some (k.format.write (.number (s ^^ t) (m * n) (e + j))) := by
    simp [floatBits, Format.mul, rx, ry, Datum.product]
  rw [fop_of hf rfl]
  obtain ⟨r, hr, hb, _⟩ := nearest_up k (s ^^ t) (m := m * n) (e := e + j) (E := (R : Int) - bias k) h0 rfl (by omega) (by
    have : 2 ^ ((R : Int) - bias k - (e + j)).toNat = 2 ^ ((R1 : Int) - bias k - e).toNat * 2 ^ ((R2 : Int) - bias k - j).toNat := by rw [← Nat.pow_add]; congr 1 <;> omega
    rw [this]
    exact Nat.mul_le_mul bm bn)
  exact ⟨_, r, hr, hb⟩
theorem signed_abs (s : Bool) (m a : Nat) : (signed s m a).natAbs = m <<< a := by unfold signed; generalize m <<< a = g; split <;> omega
theorem up_sum {k : FloatKind} {s t : Bool} {m n R : Nat} {e j : Int} (h : 1 ≤ R) (be : e ≤ (R : Int) - bias k) (bj : j ≤ (R : Int) - bias k) (bm : m ≤ 2 ^ ((R : Int) - bias k - e).toNat) (bn : n ≤ 2 ^ ((R : Int) - bias k - j).toNat) :
    ∃ d, Datum.sum (.number s m e) (.number t n j) = some d ∧ d.isNaN = false ∧ Up k (k.format.write d) (R + 1) := by
  refine ⟨_, rfl, rfl, ?_⟩
  have hab : ((signed s m (e - min e j).toNat + signed t n (j - min e j).toNat)).natAbs ≤ 2 ^ (((R + 1 : Nat) : Int) - bias k - min e j).toNat := by
    have a1 := signed_abs s m (e - min e j).toNat
    have a2 := signed_abs t n (j - min e j).toNat
    have b1 : m <<< (e - min e j).toNat ≤ 2 ^ ((R : Int) - bias k - min e j).toNat := by
      rw [Nat.shiftLeft_eq]
      have : 2 ^ ((R : Int) - bias k - min e j).toNat = 2 ^ ((R : Int) - bias k - e).toNat * 2 ^ (e - min e j).toNat := by rw [← Nat.pow_add]; congr 1 <;> omega
      rw [this]; exact Nat.mul_le_mul_right _ bm
    have b2 : n <<< (j - min e j).toNat ≤ 2 ^ ((R : Int) - bias k - min e j).toNat := by
      rw [Nat.shiftLeft_eq]
      have : 2 ^ ((R : Int) - bias k - min e j).toNat = 2 ^ ((R : Int) - bias k - j).toNat * 2 ^ (j - min e j).toNat := by rw [← Nat.pow_add]; congr 1 <;> omega
      rw [this]; exact Nat.mul_le_mul_right _ bn
    have : 2 ^ (((R + 1 : Nat) : Int) - bias k - min e j).toNat = 2 ^ ((R : Int) - bias k - min e j).toNat * 2 := by rw [← Nat.pow_succ]; congr 1 <;> omega
    rw [this]
    generalize 2 ^ ((R : Int) - bias k - min e j).toNat = P at *
    omega
  obtain ⟨r, hr, hb, _⟩ := nearest_up k (if signed s m (e - min e j).toNat + signed t n (j - min e j).toNat = 0 then s && t else decide (signed s m (e - min e j).toNat + signed t n (j - min e j).toNat < 0)) (E := ((R + 1 : Nat) : Int) - bias k) (by omega) rfl (by omega) hab
  exact ⟨_, r, hr, hb⟩
theorem up_add {k : FloatKind} {x y R : Nat} (hx : Up k x R) (hy : Up k y R) (h : 1 ≤ R) (t : R ≤ 2 * bias k) : Up k (fop .add k x y) (R + 1) := by
  obtain ⟨s, m, e, rx, be, bm, _⟩ := hx.read h t
  obtain ⟨t, n, j, ry, bj, bn, _⟩ := hy.read h t
  obtain ⟨d, hd, hn, hu⟩ := up_sum (s := s) (t := t) h be bj bm bn
  have hf : floatBits .add k x y = some (k.format.write d) := by simp [floatBits, Format.add, rx, ry, hd]
  rw [fop_of hf hn]
  exact hu
theorem up_sub {k : FloatKind} {x y R : Nat} (hx : Up k x R) (hy : Up k y R) (h : 1 ≤ R) (t : R ≤ 2 * bias k) : Up k (fop .sub k x y) (R + 1) := by
  obtain ⟨s, m, e, rx, be, bm, _⟩ := hx.read h t
  obtain ⟨t, n, j, ry, bj, bn, _⟩ := hy.read h t
  obtain ⟨d, hd, hn, hu⟩ := up_sum (s := s) (t := !t) h be bj bm bn
  have hf : floatBits .sub k x y = some (k.format.write d) := by simp [floatBits, Format.sub, rx, ry, hd, Datum.opposite]
  rw [fop_of hf hn]
  exact hu
theorem up_quo {k : FloatKind} {x y R1 R2 R : Nat} (hx : Up k x R1) (hy : Lo k y R2) (h1 : 1 ≤ R1) (h2 : 1 ≤ R2) (t1 : R1 ≤ 2 * bias k) (hR : R + R2 = R1 + bias k) (h0 : 1 ≤ R) : Up k (fop .quo k x y) R := by
  obtain ⟨s, m, e, rx, be, bm, _⟩ := hx.read h1 t1
  obtain ⟨t, n, j, ry, hn, _, bn⟩ := hy.read h2
  obtain ⟨d, hd, hnan, hu⟩ : ∃ d, Datum.quotient (k.format.fractionBits + 2) (.number s m e) (.number t n j) = some d ∧ d.isNaN = false ∧ Up k (k.format.write d) R := by
    unfold Datum.quotient
    simp only [if_neg hn]
    refine ⟨_, rfl, rfl, ?_⟩
    have hmore : k.format.fractionBits + 2 + n.log2 ≤ m.log2 + (k.format.fractionBits + 2 + n.log2 - m.log2) := by omega
    generalize k.format.fractionBits + 2 + n.log2 - m.log2 = more at *
    by_cases hm0 : m = 0
    · subst hm0
      rw [Nat.zero_shiftLeft, Nat.zero_div, Nat.zero_mod]
      have : k.format.write (.number (s ^^ t) (2 * 0 + (0 != 0).toNat) (e - j - more - 1)) = k.format.word (s ^^ t) 0 := by
        show k.format.nearest _ _ _ = _
        unfold Format.nearest
        simp
      rw [this]
      exact ⟨_, 0, rfl, Nat.zero_le _⟩
    · have hm2 : 2 ^ m.log2 ≤ m := Nat.log2_self_le hm0
      have hn2 : 2 ^ n.log2 ≤ n := Nat.log2_self_le hn
      have hmL : m.log2 ≤ ((R1 : Int) - bias k - e).toNat := by
        rcases Nat.lt_or_ge ((R1 : Int) - bias k - e).toNat m.log2 with h | h
        · exfalso
          have : 2 ^ ((R1 : Int) - bias k - e).toNat < 2 ^ m.log2 := Nat.pow_lt_pow_right (by decide) h
          omega
        · exact h
      -- the quotient's digits
      obtain ⟨c, hc⟩ : ∃ c : Nat, (c : Int) = (R1 : Int) - bias k - e + more - n.log2 := ⟨((R1 : Int) - bias k - e + more - n.log2).toNat, by omega⟩
      have hD : m <<< more ≤ 2 ^ c * n := by
        rw [Nat.shiftLeft_eq]
        have e1 : 2 ^ ((R1 : Int) - bias k - e).toNat * 2 ^ more = 2 ^ c * 2 ^ n.log2 := by rw [← Nat.pow_add, ← Nat.pow_add]; congr 1 <;> omega
        calc m * 2 ^ more ≤ 2 ^ ((R1 : Int) - bias k - e).toNat * 2 ^ more := Nat.mul_le_mul_right _ bm
          _ = 2 ^ c * 2 ^ n.log2 := e1
          _ ≤ 2 ^ c * n := Nat.mul_le_mul_left _ hn2
      have hnp : 0 < n := by omega
      have hq : 2 * (m <<< more / n) + (m <<< more % n != 0).toNat ≤ 2 ^ (c + 1) := by
        have h3 := Nat.div_add_mod (m <<< more) n
        generalize m <<< more = D at *
        rw [Nat.pow_succ]
        generalize 2 ^ c = C at *
        rcases Nat.lt_or_ge (D / n) C with hlt | hge
        · cases (D % n != 0) <;> simp <;> omega
        · have h4 : C * n ≤ (D / n) * n := Nat.mul_le_mul_right _ hge
          rw [Nat.mul_comm (D / n)] at h4
          have h5 : D % n = 0 := by omega
          have h6 : D / n = C := by
            have : D = C * n := by omega
            rw [this, Nat.mul_div_cancel _ hnp]
          rw [h5, h6]
          simp
          omega
      obtain ⟨r, hr, hb, _⟩ := nearest_up k (s ^^ t) (m := 2 * (m <<< more / n) + (m <<< more % n != 0).toNat) (e := e - j - more - 1) (E := (R : Int) - bias k) h0 rfl (by omega) (by
        refine Nat.le_trans hq (Nat.pow_le_pow_right (by decide) ?_)
        omega)
      exact ⟨_, r, hr, hb⟩
  have hf : floatBits .quo k x y = some (k.format.write d) := by simp [floatBits, Format.div, rx, ry, hd]
  rw [fop_of hf hnan]
  exact hu
end Go.Proofs.Ytdodmfojbbmbdaa
