/- Positive numbers between powers of two; what fits into 32 bits. Plain: nothing of the dump. -/
import Derived.Test.YtdodmfojbbmbdaaNear
import Derived.Test.YtdodmfojbbmbdaaConv
namespace Go.Proofs.Ytdodmfojbbmbdaa
open Ieee

/-- A positive number from 2 to the power of lo - bias to 2 to the power of hi - bias. -/
def In (k : FloatKind) (b lo hi : Nat) : Prop := lo * k.format.binade ≤ b ∧ b ≤ hi * k.format.binade
theorem In.weak {k : FloatKind} {b lo hi lo' hi' : Nat} (h : In k b lo hi) (h1 : lo' ≤ lo) (h2 : hi ≤ hi') : In k b lo' hi' :=
  ⟨Nat.le_trans (Nat.mul_le_mul_right _ h1) h.1, Nat.le_trans h.2 (Nat.mul_le_mul_right _ h2)⟩
theorem In.lt {k : FloatKind} {b lo hi : Nat} (h : In k b lo hi) (hT : hi ≤ 2 * bias k) : b < k.format.infRung := by
  have hI := inf_eq k
  have hB := binade_pos k.format
  have : hi * k.format.binade ≤ (2 * bias k) * k.format.binade := Nat.mul_le_mul_right _ hT
  have := h.2
  rw [Nat.add_mul] at hI
  omega
theorem In.up {k : FloatKind} {b lo hi : Nat} (h : In k b lo hi) : Up k b hi := ⟨false, b, rfl, h.2⟩
theorem In.lo {k : FloatKind} {b lo hi : Nat} (h : In k b lo hi) (hT : hi ≤ 2 * bias k) : Lo k b lo := ⟨false, b, rfl, h.1, h.lt hT⟩
theorem In.num {k : FloatKind} {b lo hi : Nat} (h : In k b lo hi) (hT : hi ≤ 2 * bias k) : isN k b = false := by
  have := h.lt hT
  have h2 := isN_word k false (r := b) (Nat.lt_trans this (infRung_lt' k))
  have h3 : k.format.word false b = b := rfl
  rw [h3] at h2
  rw [h2]
  simp; omega
theorem read_neg' (k : FloatKind) (x : Nat) : (k.format.read x).neg = (x / k.format.signWeight % 2 == 1) := by
  unfold Format.read
  dsimp only
  split
  · rfl
  · split
    · rfl
    · split <;> rfl
theorem In.read {k : FloatKind} {b lo hi : Nat} (h : In k b lo hi) (h1 : 1 ≤ lo) (hT : hi ≤ 2 * bias k) :
    ∃ m e, k.format.read b = .number false m e ∧ m ≠ 0 ∧ (lo : Int) - bias k ≤ e + m.log2 ∧ e ≤ (hi : Int) - bias k ∧ m ≤ 2 ^ ((hi : Int) - bias k - e).toNat := by
  have hlt := h.lt hT
  have hle : lo ≤ hi := by
    have hB := binade_pos k.format
    rcases Nat.lt_or_ge hi lo with h' | h'
    · have h2 : (hi + 1) * k.format.binade ≤ lo * k.format.binade := Nat.mul_le_mul_right _ h'
      have := h.1
      have := h.2
      rw [Nat.add_mul] at h2
      omega
    · exact h'
  obtain ⟨s, m, e, hr, he, hm, _⟩ := h.up.read (by omega) hT
  obtain ⟨s', m', e', hr', hm', _, hl⟩ := (h.lo hT).read h1
  rw [hr] at hr'
  injection hr' with _ a b'
  subst a; subst b'
  have hn := read_neg' k b
  rw [hr] at hn
  have hs : s = false := by
    have : s = (b / k.format.signWeight % 2 == 1) := hn
    rw [this, Nat.div_eq_of_lt (Nat.lt_trans hlt (infRung_lt' k))]
    rfl
  subst hs
  exact ⟨m, e, hr, hm', hl, he, hm⟩
theorem in_word {k : FloatKind} {r lo hi : Nat} {b : Nat} (h : b = k.format.word false r) (h1 : lo * k.format.binade ≤ r) (h2 : r ≤ hi * k.format.binade) : In k b lo hi := by
  subst h
  exact ⟨h1, h2⟩
/-- What is written of a positive number. -/
theorem in_write (k : FloatKind) {m : Nat} {e : Int} {lo hi : Nat} (hm : m ≠ 0) (h1 : 1 ≤ lo) (hl : (lo : Int) - bias k ≤ e + m.log2) (hi0 : lo ≤ 2 * bias k + 1) (he : e ≤ (hi : Int) - bias k) (hu : m ≤ 2 ^ ((hi : Int) - bias k - e).toNat) (h2 : 1 ≤ hi) :
    In k (k.format.write (.number false m e)) lo hi := by
  obtain ⟨r, hr, hb, _⟩ := nearest_up k false (m := m) (e := e) (E := (hi : Int) - bias k) h2 rfl he hu
  obtain ⟨r', hr', hb'⟩ := nearest_lo k false (m := m) (e := e) h1 hm hl hi0
  have e1 : k.format.word false r = r := rfl
  have e2 : k.format.word false r' = r' := rfl
  have : r = r' := by rw [← e1, ← e2, ← hr, ← hr']
  subst this
  exact in_word hr hb' hb
theorem log2_mul_ge {m n : Nat} (hm : m ≠ 0) (hn : n ≠ 0) : m.log2 + n.log2 ≤ (m * n).log2 := by
  apply (Nat.le_log2 (Nat.mul_ne_zero hm hn)).2
  rw [Nat.pow_add]
  exact Nat.mul_le_mul (Nat.log2_self_le hm) (Nat.log2_self_le hn)
theorem in_mul {k : FloatKind} {x y a1 b1 a2 b2 a b : Nat} (hx : In k x a1 b1) (hy : In k y a2 b2) (h1 : 1 ≤ a1) (h2 : 1 ≤ a2) (t1 : b1 ≤ 2 * bias k) (t2 : b2 ≤ 2 * bias k) (ha : a + bias k = a1 + a2) (hb : b + bias k = b1 + b2) (h0 : 1 ≤ a) (h9 : b ≤ 2 * bias k) :
    In k (fop .mul k x y) a b := by
  have l1 := Nat.le_of_mul_le_mul_right (Nat.le_trans hx.1 hx.2) (binade_pos k.format)
  have l2 := Nat.le_of_mul_le_mul_right (Nat.le_trans hy.1 hy.2) (binade_pos k.format)
  obtain ⟨m, e, rx, m0, el, eu, mu⟩ := hx.read h1 t1
  obtain ⟨n, j, ry, n0, jl, ju, nu⟩ := hy.read h2 t2
  have hf : floatBits .mul k x y = some (k.format.write (.number false (m * n) (e + j))) := by
    simp [floatBits, Format.mul, rx, ry, Datum.product]
  rw [fop_of hf rfl]
  have hlog := log2_mul_ge m0 n0
  refine in_write k (Nat.mul_ne_zero m0 n0) h0 (by omega) (by omega) (by omega) ?_ (by omega)
  have : 2 ^ ((b : Int) - bias k - (e + j)).toNat = 2 ^ ((b1 : Int) - bias k - e).toNat * 2 ^ ((b2 : Int) - bias k - j).toNat := by rw [← Nat.pow_add]; congr 1 <;> omega
  rw [this]
  exact Nat.mul_le_mul mu nu
theorem in_quo {k : FloatKind} {x y a1 b1 a2 b2 a b : Nat} (hx : In k x a1 b1) (hy : In k y a2 b2) (h1 : 1 ≤ a1) (h2 : 1 ≤ a2) (t1 : b1 ≤ 2 * bias k) (t2 : b2 ≤ 2 * bias k) (ha : a + b2 = a1 + bias k) (hb : b + a2 = b1 + bias k) (h0 : 1 ≤ a) (h9 : b ≤ 2 * bias k) :
    In k (fop .quo k x y) a b := by
  have l1 := Nat.le_of_mul_le_mul_right (Nat.le_trans hx.1 hx.2) (binade_pos k.format)
  have l2 := Nat.le_of_mul_le_mul_right (Nat.le_trans hy.1 hy.2) (binade_pos k.format)
  obtain ⟨s, r, er, hr⟩ := up_quo hx.up (hy.lo t2) (by omega) h2 t1 hb (by omega)
  obtain ⟨m, e, rx, m0, el, eu, mu⟩ := hx.read h1 t1
  obtain ⟨n, j, ry, n0, jl, ju, nu⟩ := hy.read h2 t2
  have hf : ∃ Q more : Nat, floatBits .quo k x y = some (k.format.write (.number false Q (e - j - more - 1))) ∧ Q ≠ 0 ∧ (e + m.log2 - b2 + bias k : Int) ≤ (e - j - more - 1) + Q.log2 := by
    refine ⟨2 * (m <<< (k.format.fractionBits + 2 + n.log2 - m.log2) / n) + (m <<< (k.format.fractionBits + 2 + n.log2 - m.log2) % n != 0).toNat, k.format.fractionBits + 2 + n.log2 - m.log2, by simp [floatBits, Format.div, rx, ry, Datum.quotient, n0], ?_⟩
    have hmore : k.format.fractionBits + 2 + n.log2 ≤ m.log2 + (k.format.fractionBits + 2 + n.log2 - m.log2) := by omega
    generalize k.format.fractionBits + 2 + n.log2 - m.log2 = more at *
    have hm2 : 2 ^ m.log2 ≤ m := Nat.log2_self_le m0
    have hn2 : n < 2 ^ (n.log2 + 1) := Nat.lt_log2_self
    have hn3 : 2 ^ n.log2 ≤ n := Nat.log2_self_le n0
    have hnp : 0 < n := by omega
    -- a lower bound of the digits
    have key : ∀ t : Nat, n ≤ 2 ^ t → t ≤ m.log2 + more → 2 ^ (m.log2 + more - t) ≤ m <<< more / n := by
      intro t hn ht
      apply (Nat.le_div_iff_mul_le hnp).2
      rw [Nat.shiftLeft_eq]
      calc 2 ^ (m.log2 + more - t) * n ≤ 2 ^ (m.log2 + more - t) * 2 ^ t := Nat.mul_le_mul_left _ hn
        _ = 2 ^ m.log2 * 2 ^ more := by rw [← Nat.pow_add, ← Nat.pow_add]; congr 1 <;> omega
        _ ≤ m * 2 ^ more := Nat.mul_le_mul_right _ hm2
    have fin : ∀ t : Nat, n ≤ 2 ^ t → t ≤ m.log2 + more → (j + t : Int) ≤ (b2 : Int) - bias k → (2 * (m <<< more / n) + (m <<< more % n != 0).toNat ≠ 0 ∧ (e + m.log2 - b2 + bias k : Int) ≤ (e - j - more - 1) + (2 * (m <<< more / n) + (m <<< more % n != 0).toNat).log2) := by
      intro t hn ht hj
      have hk := key t hn ht
      have hp : 0 < 2 ^ (m.log2 + more - t) := Nat.two_pow_pos _
      have hQ : 2 ^ (m.log2 + more - t + 1) ≤ 2 * (m <<< more / n) + (m <<< more % n != 0).toNat := by rw [Nat.pow_succ]; omega
      generalize 2 * (m <<< more / n) + (m <<< more % n != 0).toNat = Q at *
      have hp1 : 0 < 2 ^ (m.log2 + more - t + 1) := Nat.two_pow_pos _
      have hQ0 : Q ≠ 0 := by omega
      have := (Nat.le_log2 hQ0).2 hQ
      exact ⟨hQ0, by omega⟩
    rcases Nat.lt_or_ge (2 ^ n.log2) n with hgt | hle
    · have hb2 : n.log2 + 1 ≤ ((b2 : Int) - bias k - j).toNat := by
        rcases Nat.lt_or_ge ((b2 : Int) - bias k - j).toNat (n.log2 + 1) with h | h
        · exfalso
          have : 2 ^ ((b2 : Int) - bias k - j).toNat ≤ 2 ^ n.log2 := Nat.pow_le_pow_right (by decide) (by omega)
          omega
        · exact h
      exact fin (n.log2 + 1) (Nat.le_of_lt hn2) (by omega) (by omega)
    · have hb2 : n.log2 ≤ ((b2 : Int) - bias k - j).toNat := by
        rcases Nat.lt_or_ge ((b2 : Int) - bias k - j).toNat n.log2 with h | h
        · exfalso
          have : 2 ^ ((b2 : Int) - bias k - j).toNat < 2 ^ n.log2 := Nat.pow_lt_pow_right (by decide) h
          omega
        · exact h
      exact fin n.log2 hle (by omega) (by omega)
  obtain ⟨Q, more, hf, hQ0, hQ⟩ := hf
  rw [fop_of hf rfl] at er ⊢
  obtain ⟨r', hr', hb'⟩ := nearest_lo k false (m := Q) (e := e - j - more - 1) (R := a) h0 hQ0 (by omega) (by omega)
  obtain ⟨r2, h2', e2⟩ := nearest_word k.format false Q (e - j - more - 1)
  have hsw := infRung_lt' k
  have e0 : k.format.write (.number false Q (e - j - more - 1)) = r2 := e2
  have e1 : r' = r2 := hr'.symm.trans e2
  rw [e0] at er ⊢
  subst e1
  cases s
  · exact ⟨hb', by rw [er]; exact hr⟩
  · exfalso
    have : r' = k.format.signWeight + r := er
    omega
theorem in_add {k : FloatKind} {x y a1 a2 b : Nat} (hx : In k x a1 b) (hy : In k y a2 b) (h1 : 1 ≤ a1) (h2 : 1 ≤ a2) (t : b + 1 ≤ 2 * bias k) : In k (fop .add k x y) a1 (b + 1) := by
  have l1 := Nat.le_of_mul_le_mul_right (Nat.le_trans hx.1 hx.2) (binade_pos k.format)
  obtain ⟨m, e, rx, m0, el, eu, mu⟩ := hx.read h1 (by omega)
  obtain ⟨n, j, ry, n0, jl, ju, nu⟩ := hy.read h2 (by omega)
  have hpos : 0 < m <<< (e - min e j).toNat := by rw [Nat.shiftLeft_eq]; exact Nat.mul_pos (by omega) (Nat.two_pow_pos _)
  have sg : ∀ m a, signed false m a = ((m <<< a : Nat) : Int) := fun m a => by unfold signed; rfl
  have b1 : m <<< (e - min e j).toNat ≤ 2 ^ ((b : Int) - bias k - min e j).toNat := by
    rw [Nat.shiftLeft_eq]
    have : 2 ^ ((b : Int) - bias k - min e j).toNat = 2 ^ ((b : Int) - bias k - e).toNat * 2 ^ (e - min e j).toNat := by rw [← Nat.pow_add]; congr 1 <;> omega
    rw [this]; exact Nat.mul_le_mul_right _ mu
  have b2 : n <<< (j - min e j).toNat ≤ 2 ^ ((b : Int) - bias k - min e j).toNat := by
    rw [Nat.shiftLeft_eq]
    have : 2 ^ ((b : Int) - bias k - min e j).toNat = 2 ^ ((b : Int) - bias k - j).toNat * 2 ^ (j - min e j).toNat := by rw [← Nat.pow_add]; congr 1 <;> omega
    rw [this]; exact Nat.mul_le_mul_right _ nu
  have hl : 2 ^ (m.log2 + (e - min e j).toNat) ≤ m <<< (e - min e j).toNat := by
    rw [Nat.pow_add, Nat.shiftLeft_eq]
    exact Nat.mul_le_mul_right _ (Nat.log2_self_le m0)
  have hs : Datum.sum (.number false m e) (.number false n j) = some (.number false (m <<< (e - min e j).toNat + n <<< (j - min e j).toNat) (min e j)) := by
    unfold Datum.sum
    simp only [sg]
    generalize m <<< (e - min e j).toNat = U at *
    generalize n <<< (j - min e j).toNat = V at *
    have h3 : ¬ ((U : Int) + (V : Int)) = 0 := by omega
    have h4 : ¬ ((U : Int) + (V : Int)) < 0 := by omega
    rw [if_neg h3, decide_eq_false h4]
    congr 2
  have hf : floatBits .add k x y = some (k.format.write (.number false (m <<< (e - min e j).toNat + n <<< (j - min e j).toNat) (min e j))) := by simp [floatBits, Format.add, rx, ry, hs]
  rw [fop_of hf rfl]
  clear hf hs
  generalize m <<< (e - min e j).toNat = U at *
  generalize n <<< (j - min e j).toNat = V at *
  have hU : U + V ≠ 0 := by omega
  have hl2 : m.log2 + (e - min e j).toNat ≤ (U + V).log2 := (Nat.le_log2 hU).2 (by omega)
  refine in_write k hU h1 (by omega) (by omega) (by omega) ?_ (by omega)
  have : 2 ^ (((b + 1 : Nat) : Int) - bias k - min e j).toNat = 2 ^ ((b : Int) - bias k - min e j).toNat * 2 := by rw [← Nat.pow_succ]; congr 1 <;> omega
  rw [this]
  omega

/-- A number that is not too great fits into 32 bits. -/
theorem Up.fit {b R : Nat} (h : Up .f64 b R) (h1 : 897 ≤ R) (h2 : R ≤ 1149) : nfit b = true := by
  have b64 : bias .f64 = 1023 := rfl
  have b32 : bias .f32 = 127 := rfl
  obtain ⟨s, m, e, hr, he, hm, _⟩ := h.read (by omega) (by omega)
  unfold nfit
  rw [show double.read b = .number s m e from hr]
  obtain ⟨r, hr', hb, hi⟩ := nearest_up .f32 s (m := m) (e := e) (R := R - 896) (by omega) rfl (by omega) (by
    have : ((R - 896 : Nat) : Int) - bias .f32 - e = (R : Int) - bias .f64 - e := by omega
    rw [this]; exact hm)
  have e0 : single.write (.number s m e) = single.word s r := hr'
  have hlt : r < single.infRung := by
    have hI : single.infRung = 2139095040 := by decide
    have hB : FloatKind.f32.format.binade = 8388608 := by decide
    rw [hB] at hb
    rw [hI]
    omega
  show (!(single.read (single.write (.number s m e))).isInfinity) = true
  rw [e0, (read_word single s (Nat.le_of_lt hlt) (infRung_lt' .f32)).2 hlt]
  rfl
end Go.Proofs.Ytdodmfojbbmbdaa
