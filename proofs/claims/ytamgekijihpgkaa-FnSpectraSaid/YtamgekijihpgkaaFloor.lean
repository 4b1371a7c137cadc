/- The floor of a small 32-bit number. Plain: nothing of the dump. -/
import Derived.Test.YtamgekijihpgkaaMa
namespace Go.Proofs.Ytamgekijihpgkaa
open Ieee

/-- The floor of a 64-bit number, as the library has it. -/
def fl64 (b : Nat) : Nat := double.write ((double.read b).integral .down)
/-- A 64-bit number as a whole number. -/
def whole (b : Nat) : Int := ((double.read b).toInt .zero).getD 0

theorem cut_down_le (n drop B : Nat) (h : n < (B + 1) * 2 ^ drop) : Toward.down.cut false n drop ≤ B := by
  unfold Toward.cut
  simp only [Bool.false_and, Bool.toNat_false, Nat.add_zero]
  by_cases hm : drop ≤ n.log2 + 2
  · rw [Nat.min_eq_left hm, Nat.shiftLeft_eq, Nat.one_mul]
    have := Nat.div_lt_of_lt_mul (by rw [Nat.mul_comm]; exact h : n < 2 ^ drop * (B + 1))
    omega
  · rw [Nat.min_eq_right (by omega), Nat.shiftLeft_eq, Nat.one_mul]
    have h1 : n < 2 ^ (n.log2 + 1) := Nat.lt_log2_self
    have h2 : n < 2 ^ (n.log2 + 2) := Nat.lt_trans h1 (Nat.pow_lt_pow_right (by decide) (by omega))
    rw [Nat.div_eq_of_lt h2]
    omega
theorem cut_zero_n (way : Toward) (neg : Bool) (drop : Nat) : way.cut neg 0 drop = 0 := by
  unfold Toward.cut
  simp only [Nat.zero_div, Nat.zero_mod]
  cases way <;> simp

/-- A 64-bit number that was a 32-bit one: what is read of it. -/
theorem read_widen {x : Nat} {s : Bool} {m : Nat} {e : Int} (h : single.read x = .number s m e) :
    (m = 0 ∧ double.read (double.write (.number s m e)) = .number s 0 (-1074)) ∨
    (m ≠ 0 ∧ m.log2 < 24 ∧ double.read (double.write (.number s m e)) = .number s (m <<< (52 - m.log2)) (e + m.log2 - 52)) := by
  obtain ⟨hm, he1, he2⟩ := single_bounds h
  have e2 : double.binade = 4503599627370496 := by decide +kernel
  have e3 : double.infRung = 9218868437227405312 := by decide +kernel
  have e4 : double.leastPlace = -1074 := by decide +kernel
  have e5 : double.fractionBits = 52 := rfl
  by_cases h0 : m = 0
  · left
    subst h0
    refine ⟨rfl, ?_⟩
    have : double.write (.number s 0 e) = double.word s 0 := by
      show double.nearest s 0 e = _
      unfold Format.nearest; rw [if_pos rfl]
    rw [this]
    cases s <;> decide +kernel
  · right
    have hl : m.log2 < 24 := (Nat.log2_lt h0).2 (by omega)
    refine ⟨h0, hl, ?_⟩
    show double.read (double.nearest s m e) = _
    unfold Format.nearest
    rw [if_neg h0]
    simp only [e2, e3, e4, e5]
    have hmax : max (e + (m.log2 : Int) - (52 : Nat)) (-1074) = e + (m.log2 : Int) - 52 := by omega
    rw [hmax]
    have ha : (e - (e + (m.log2 : Int) - 52)).toNat = 52 - m.log2 := by omega
    have hb : (e + (m.log2 : Int) - 52 - e).toNat = 0 := by omega
    rw [ha, hb, cut_zero]
    have hK1 : m <<< (52 - m.log2) < 2 * 4503599627370496 := by
      have h1 : m < 2 ^ (m.log2 + 1) := Nat.lt_log2_self
      have h2 : 2 ^ (m.log2 + 1) * 2 ^ (52 - m.log2) = 2 ^ 53 := by rw [← Nat.pow_add]; congr 1; omega
      have h3 : (2 : Nat) ^ 53 = 2 * 4503599627370496 := by decide
      rw [← h3, ← h2, Nat.shiftLeft_eq]
      exact Nat.mul_lt_mul_of_pos_right h1 (Nat.two_pow_pos _)
    have hK2 : 4503599627370496 ≤ m <<< (52 - m.log2) := by
      have h1 : 2 ^ m.log2 ≤ m := Nat.log2_self_le h0
      have h2 : 2 ^ m.log2 * 2 ^ (52 - m.log2) = 2 ^ 52 := by rw [← Nat.pow_add]; congr 1; omega
      have h3 : (2 : Nat) ^ 52 = 4503599627370496 := by decide
      rw [← h3, ← h2, Nat.shiftLeft_eq]
      exact Nat.mul_le_mul_right _ h1
    generalize m <<< (52 - m.log2) = K at *
    have hq : (e + (m.log2 : Int) - 52 - -1074).toNat ≤ 1149 := by omega
    have hql : e + (m.log2 : Int) - 52 = -1074 + ((e + (m.log2 : Int) - 52 - -1074).toNat : Nat) := by omega
    generalize (e + (m.log2 : Int) - 52 - -1074).toNat = q at *
    rw [hql]
    have hlt : q * 4503599627370496 + K < 9218868437227405312 := by omega
    rw [Nat.min_eq_left (Nat.le_of_lt hlt)]
    have hw : q * 4503599627370496 + K < double.signWeight := Nat.lt_trans hlt (by decide)
    have hr := rung_word double s hw
    have hn := word_neg double s hw
    unfold Format.read
    simp only [hr, hn, e2, e3, e4]
    rw [if_neg (by omega), if_pos hlt]
    have hmod : (q * 4503599627370496 + K) % 4503599627370496 = K - 4503599627370496 := by omega
    have hdiv : (q * 4503599627370496 + K) / 4503599627370496 = q + 1 := by omega
    rw [hmod, hdiv, Nat.add_sub_cancel, Nat.add_sub_cancel' hK2]
theorem shift_sub (m a b : Nat) (h : b ≤ a) : m <<< a = (m <<< (a - b)) * 2 ^ b := by
  rw [Nat.shiftLeft_eq, Nat.shiftLeft_eq, Nat.mul_assoc, ← Nat.pow_add]; congr 2; omega

theorem fkey32 {x : Nat} {s : Bool} {m : Nat} {e : Int} (h : single.read x = .number s m e) : fkey .f32 x = signed s m (e + 149).toNat := by
  have e4 : single.leastPlace = -149 := by decide +kernel
  show dkey single.leastPlace (single.read x) = _
  rw [h, e4]
  show signed s m (e - -149).toNat = _
  rw [show e - -149 = e + 149 by omega]
theorem read_zero (f : Format) {x : Nat} {s : Bool} {e : Int} (h : f.read x = .number s 0 e) : e = f.leastPlace := by
  have hB := binade_pos f
  unfold Format.read at h
  dsimp only at h
  split at h
  · injection h with _ _ h3; exact h3.symm
  · split at h
    · injection h with _ h2 _; omega
    · split at h <;> cases h
theorem fop_congr {op : BinOp} {k : FloatKind} {x x' y : Nat} (h : k.format.read x = k.format.read x') : fop op k x y = fop op k x' y := by
  unfold fop floatBits
  cases op <;> simp [Format.add, Format.sub, Format.mul, Format.div, h]
theorem floor_small {x B : Nat} (h0 : 0 ≤ fkey .f32 x) (h1 : fkey .f32 x ≤ ((B * 2 ^ 149 : Nat) : Int)) (hn : isN .f32 x = false) (hB : B < 2 ^ 20) :
    ∃ s N, N ≤ B ∧ (s = true → N = 0 ∧ single.read x = .number true 0 (-149)) ∧ fl64 (double.write (single.read x)) = double.write (.number s N 0) := by
  cases hr : single.read x with
  | nan s t => unfold isN at hn; rw [show FloatKind.f32.format.read x = .nan s t from hr] at hn; simp [Datum.isNaN] at hn
  | infinity s =>
    exfalso
    have hk : fkey .f32 x = if s then -farKey else farKey := by
      show dkey single.leastPlace (single.read x) = _
      rw [hr]; rfl
    have hbig : ((B * 2 ^ 149 : Nat) : Int) < farKey := by
      have hE := farE_gt
      unfold farKey
      have : B * 2 ^ 149 < 2 ^ 20 * 2 ^ 149 := Nat.mul_lt_mul_of_pos_right hB (Nat.two_pow_pos _)
      have h2 : 2 ^ 20 * 2 ^ 149 ≤ 2 ^ farE := by rw [← Nat.pow_add]; exact Nat.pow_le_pow_right (by decide) (by omega)
      exact Int.ofNat_lt.2 (Nat.lt_of_lt_of_le this h2)
    rw [hk] at h0 h1
    generalize farKey = F at *
    cases s <;> simp at h0 h1 <;> omega
  | number s m e =>
    obtain ⟨hm, he1, he2⟩ := single_bounds hr
    rw [fkey32 hr] at h0 h1
    unfold fl64
    rcases read_widen hr with ⟨rfl, hd⟩ | ⟨hm0, hl, hd⟩
    · rw [hd]
      have he : e = -149 := by
        have := read_zero single hr
        rw [this]; decide
      refine ⟨s, 0, Nat.zero_le _, fun h => ⟨rfl, by rw [h, he]⟩, ?_⟩
      simp only [Datum.integral, Nat.zero_shiftLeft, cut_zero_n]
    · have hs : s = false := by
        cases s
        · rfl
        · exfalso
          unfold signed at h0
          simp only [if_true] at h0
          have : 0 < m <<< (e + 149).toNat := by rw [Nat.shiftLeft_eq]; exact Nat.mul_pos (by omega) (Nat.two_pow_pos _)
          omega
      subst hs
      rw [hd]
      refine ⟨false, _, ?_, (fun h => by cases h), rfl⟩
      unfold signed at h1
      simp only [Bool.false_eq_true, if_false] at h1
      have h1' : m <<< (e + 149).toNat ≤ B * 2 ^ 149 := Int.ofNat_le.1 h1
      apply cut_down_le
      generalize hL : m.log2 = L at *
      have hpos149 : (0 : Nat) < 2 ^ 149 := Nat.two_pow_pos _
      by_cases h2 : 0 ≤ e + L - 52
      · have hz : (-(e + (L : Int) - 52)).toNat = 0 := by omega
        rw [hz, Nat.pow_zero, Nat.mul_one]
        have hsh : m <<< (52 - L) <<< (e + (L : Int) - 52).toNat = m <<< e.toNat := by
          rw [← Nat.shiftLeft_add]; congr 1; omega
        rw [hsh]
        rw [shift_sub m (e + 149).toNat 149 (by omega), show (e + 149).toNat - 149 = e.toNat by omega] at h1'
        have := Nat.le_of_mul_le_mul_right h1' hpos149
        omega
      · have hz : (e + (L : Int) - 52).toNat = 0 := by omega
        rw [hz, Nat.shiftLeft_zero]
        have hpow : 2 ^ (-(e + (L : Int) - 52)).toNat * 2 ^ (e + 149).toNat = 2 ^ (52 - L) * 2 ^ 149 := by
          rw [← Nat.pow_add, ← Nat.pow_add]; congr 1; omega
        have hp : 0 < 2 ^ (e + 149).toNat := Nat.two_pow_pos _
        apply Nat.lt_of_mul_lt_mul_right (a := 2 ^ (e + 149).toNat)
        rw [Nat.mul_assoc, hpow, Nat.shiftLeft_eq]
        rw [Nat.shiftLeft_eq] at h1'
        have h3 : m * 2 ^ (52 - L) * 2 ^ (e + 149).toNat = (m * 2 ^ (e + 149).toNat) * 2 ^ (52 - L) := by rw [Nat.mul_assoc, Nat.mul_comm (2 ^ (52 - L)), Nat.mul_assoc]
        rw [h3]
        have h4 : (m * 2 ^ (e + 149).toNat) * 2 ^ (52 - L) ≤ (B * 2 ^ 149) * 2 ^ (52 - L) := Nat.mul_le_mul_right _ h1'
        have h5 : (B * 2 ^ 149) * 2 ^ (52 - L) < ((B + 1) * 2 ^ 149) * 2 ^ (52 - L) := Nat.mul_lt_mul_of_pos_right (Nat.mul_lt_mul_of_pos_right (by omega) hpos149) (Nat.two_pow_pos _)
        have h6 : (B + 1) * (2 ^ (52 - L) * 2 ^ 149) = ((B + 1) * 2 ^ 149) * 2 ^ (52 - L) := by rw [Nat.mul_comm (2 ^ (52 - L)), Nat.mul_assoc]
        omega
/-- What a small whole number is, as a 64-bit one, as an integer and as a 32-bit one. -/
theorem whole_small : ∀ N, N < 1001 → ((double.read (double.write (.number false N 0))).toInt .zero = some (N : Int) ∧ (single.read (single.write (double.read (double.write (.number false N 0))))).isInfinity = false ∧ isN .f64 (double.write (.number false N 0)) = false ∧ (double.read (double.write (.number false N 0))).isInfinity = false) := by decide +kernel
theorem narrow_small : ∀ N, N < 1001 → cn .f32 (single.write (double.read (double.write (.number false N 0)))) = cn .f32 (floatOfInt .f32 (N : Int)) := by decide +kernel
theorem whole_neg0 : (double.read (double.write (.number true 0 0))).toInt .zero = some (0 : Int) ∧ (single.read (single.write (double.read (double.write (.number true 0 0))))).isInfinity = false ∧ isN .f64 (double.write (.number true 0 0)) = false ∧ (double.read (double.write (.number true 0 0))).isInfinity = false := by decide +kernel
end Go.Proofs.Ytamgekijihpgkaa
