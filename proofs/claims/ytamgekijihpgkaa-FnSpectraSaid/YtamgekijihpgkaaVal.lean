/- Numbers as rational ones: what rounding may turn. Plain: nothing of the dump. -/
import Derived.Test.YtamgekijihpgkaaMa
namespace Go.Proofs.Ytamgekijihpgkaa
open Ieee

theorem two_ne : (2 : Rat) ≠ 0 := by decide
theorem zadd (a b : Int) : (2 : Rat) ^ (a + b) = (2 : Rat) ^ a * (2 : Rat) ^ b := Rat.zpow_add two_ne a b
theorem znat (n : Nat) : (2 : Rat) ^ (n : Int) = ((2 ^ n : Nat) : Rat) := by rw [Rat.zpow_natCast]; norm_cast
theorem zpos (a : Int) : 0 < (2 : Rat) ^ a := Rat.zpow_pos (by decide)
theorem znat' {a : Int} (h : 0 ≤ a) : (2 : Rat) ^ a = ((2 ^ a.toNat : Nat) : Rat) := by
  rw [← znat, Int.toNat_of_nonneg h]
theorem zle {a b : Int} (h : a ≤ b) : (2 : Rat) ^ a ≤ (2 : Rat) ^ b := by
  have e : b = a + ((b - a).toNat : Int) := by omega
  rw [e, zadd, znat]
  have h1 : ((1 : Nat) : Rat) ≤ ((2 ^ (b - a).toNat : Nat) : Rat) := Rat.natCast_le_natCast.2 (Nat.one_le_two_pow)
  have h2 := Rat.mul_le_mul_of_nonneg_left h1 (Rat.le_of_lt (zpos a))
  grind
/-- The exact half of what a cut leaves. -/
theorem cut_half (neg : Bool) (n drop : Nat) : 2 * (Toward.even.cut neg n drop * 2 ^ drop) ≤ 2 * n + 2 ^ drop ∧ 2 * n ≤ 2 * (Toward.even.cut neg n drop * 2 ^ drop) + 2 ^ drop := by
  unfold Toward.cut
  have hp : 0 < 2 ^ (min drop (n.log2 + 2)) := Nat.two_pow_pos _
  simp only [Nat.shiftLeft_eq, Nat.one_mul]
  by_cases hm : drop ≤ n.log2 + 2
  · rw [Nat.min_eq_left hm] at hp ⊢
    generalize 2 ^ drop = g at *
    have h1 := Nat.div_add_mod n g
    have h2 := Nat.mod_lt n hp
    have h3 : (n / g + 0) * g = g * (n / g) := by rw [Nat.add_zero, Nat.mul_comm]
    have h4 : (n / g + 1) * g = g * (n / g) + g := by rw [Nat.add_mul, Nat.mul_comm, Nat.one_mul]
    cases hc : (decide (g < 2 * (n % g)) || g == 2 * (n % g) && n / g % 2 == 1)
    · simp at hc
      rw [Bool.toNat_false, h3]
      omega
    · simp at hc
      rw [Bool.toNat_true, h4]
      omega
  · rw [Nat.min_eq_right (by omega)] at hp ⊢
    have h1 : n < 2 ^ (n.log2 + 1) := Nat.lt_log2_self
    have h9 : 2 ^ (n.log2 + 1) * 2 ≤ 2 ^ drop := by rw [← Nat.pow_succ]; exact Nat.pow_le_pow_right (by decide) (by omega)
    rw [Nat.pow_succ] at hp ⊢
    generalize 2 ^ (n.log2 + 1) = g at *
    have h2 : n / (g * 2) = 0 := Nat.div_eq_of_lt (by omega)
    have h3 : n % (g * 2) = n := Nat.mod_eq_of_lt (by omega)
    have h4 : ¬ g * 2 < 2 * n := by omega
    simp [h2, h3, h4]
    omega

/-- A number of a format as a rational one. -/
def rv (k : FloatKind) (x : Nat) : Rat := (fkey k x : Rat) * (2 : Rat) ^ k.format.leastPlace
def isF (k : FloatKind) (x : Nat) : Prop := ∃ s m e, k.format.read x = .number s m e ∧ k.format.leastPlace ≤ e
def sv (s : Bool) (m : Nat) (e : Int) : Rat := (if s then -1 else 1) * ((m : Rat) * (2 : Rat) ^ e)
theorem sv_key {L : Int} (s : Bool) (m : Nat) {e : Int} (h : L ≤ e) : ((signed s m (e - L).toNat : Int) : Rat) * (2 : Rat) ^ L = sv s m e := by
  have e1 : e = ((e - L).toNat : Int) + L := by omega
  have e2 : (2 : Rat) ^ e = ((2 ^ (e - L).toNat : Nat) : Rat) * (2 : Rat) ^ L := by rw [← znat, ← zadd, ← e1]
  unfold sv signed
  rw [e2, Nat.shiftLeft_eq]
  generalize (2 ^ (e - L).toNat) = p
  cases s
  · simp only [Bool.false_eq_true, if_false]
    rw [Rat.intCast_natCast, Rat.natCast_mul]
    grind
  · simp only [if_true]
    rw [Rat.intCast_neg, Rat.intCast_natCast, Rat.natCast_mul]
    grind
theorem isF.val {k : FloatKind} {x : Nat} (h : isF k x) : ∃ s m e, k.format.read x = .number s m e ∧ k.format.leastPlace ≤ e ∧ rv k x = sv s m e := by
  obtain ⟨s, m, e, hr, he⟩ := h
  refine ⟨s, m, e, hr, he, ?_⟩
  unfold rv fkey
  rw [hr]
  unfold dkey
  exact sv_key s m he
theorem isF.num {k : FloatKind} {x : Nat} (h : isF k x) : isN k x = false := by
  obtain ⟨s, m, e, hr, _⟩ := h
  unfold isN; rw [hr]; rfl
theorem isF_word {k : FloatKind} (s : Bool) {r : Nat} (h : r < k.format.infRung) : isF k (k.format.word s r) := by
  obtain ⟨m, e, hr, he, _⟩ := read_rung k.format s h (infRung_lt' k)
  exact ⟨s, m, e, hr, he⟩
theorem rung_val (f : Format) {j c : Nat} (h1 : j = 0 ∨ f.binade ≤ c) (h2 : c ≤ 2 * f.binade) : rval f (j * f.binade + c) = c * 2 ^ j := by
  have hB := binade_pos f
  rcases Nat.lt_or_ge c f.binade with h | h
  · rcases h1 with rfl | h1
    · unfold rval
      rw [if_pos (by omega)]
      simp
    · omega
  · rcases Nat.lt_or_eq_of_le h2 with h3 | h3
    · rw [rval_q f (q := j) (t := c - f.binade) (by rw [Nat.add_mul, Nat.one_mul]; omega) (by omega)]
      congr 1
      omega
    · subst h3
      rw [rval_q f (q := j + 1) (t := 0) (by rw [Nat.add_mul, Nat.add_mul, Nat.one_mul]; omega) hB, Nat.add_zero, Nat.pow_succ, Nat.mul_comm 2, Nat.mul_assoc, Nat.mul_comm (2 ^ j)]
/-- What rounding may turn of a number. -/
def ulp (k : FloatKind) : Rat := (2 : Rat) ^ (-(k.format.fractionBits : Int) - 1)
def eta (k : FloatKind) : Rat := (2 : Rat) ^ (k.format.leastPlace - 1)
def ab (x : Rat) : Rat := if 0 ≤ x then x else -x
structure Near (k : FloatKind) (b : Nat) (v : Rat) : Prop where
  fin : isF k b
  up : rv k b - v ≤ ab v * ulp k + eta k
  lo : v - rv k b ≤ ab v * ulp k + eta k
  pos : 0 ≤ v → 0 ≤ rv k b
  neg : v ≤ 0 → rv k b ≤ 0
theorem ab_nonneg (x : Rat) : 0 ≤ ab x := by unfold ab; grind
theorem le_ab (x : Rat) : x ≤ ab x := by unfold ab; grind
theorem neg_le_ab (x : Rat) : -x ≤ ab x := by unfold ab; grind
theorem ab_le {x y : Rat} (h1 : x ≤ y) (h2 : -x ≤ y) : ab x ≤ y := by unfold ab; grind
theorem ab_add (x y : Rat) : ab (x + y) ≤ ab x + ab y := by unfold ab; grind
theorem ab_neg (x : Rat) : ab (-x) = ab x := by unfold ab; grind
theorem ab_mul (x y : Rat) : ab (x * y) = ab x * ab y := by
  have h := fun a b : Rat => @Rat.mul_nonneg a b
  unfold ab
  by_cases hx : 0 ≤ x
  · by_cases hy : 0 ≤ y
    · have := h x y hx hy; rw [if_pos hx, if_pos hy, if_pos this]
    · have := h x (-y) hx (by grind)
      rw [if_pos hx, if_neg hy]
      by_cases hz : 0 ≤ x * y
      · rw [if_pos hz]; grind
      · rw [if_neg hz]; grind
  · by_cases hy : 0 ≤ y
    · have := h (-x) y (by grind) hy
      rw [if_neg hx, if_pos hy]
      by_cases hz : 0 ≤ x * y
      · rw [if_pos hz]; grind
      · rw [if_neg hz]; grind
    · have := h (-x) (-y) (by grind) (by grind)
      rw [if_neg hx, if_neg hy]
      by_cases hz : 0 ≤ x * y
      · rw [if_pos hz]; grind
      · rw [if_neg hz]; grind
theorem ab_of_nonneg {x : Rat} (h : 0 ≤ x) : ab x = x := by unfold ab; rw [if_pos h]
theorem near_val (k : FloatKind) (s : Bool) {m : Nat} {e : Int} (h1 : e ≤ bias k) (h2 : m ≤ 2 ^ ((bias k : Int) - e).toNat) : isF k (k.format.nearest s m e) ∧ ∃ v : Rat, rv k (k.format.nearest s m e) = (if s then -1 else 1) * v ∧ 0 ≤ v ∧
    v - m * (2 : Rat) ^ e ≤ (m * (2 : Rat) ^ e) * ulp k + eta k ∧ m * (2 : Rat) ^ e - v ≤ (m * (2 : Rat) ^ e) * ulp k + eta k ∧ (m < 2 ^ (k.format.fractionBits + 1) → k.format.leastPlace ≤ e → v = m * (2 : Rat) ^ e) := by
  have hB := binade_pos k.format
  have hlp := lp_eq k
  have hinf := inf_eq k
  have hu : 0 < ulp k := zpos _
  have he : 0 < eta k := zpos _
  have hfin : ∀ r, r < k.format.infRung → isF k (k.format.word s r) ∧ rv k (k.format.word s r) = (if s then -1 else 1) * ((rval k.format r : Rat) * (2 : Rat) ^ k.format.leastPlace) := by
    intro r hr
    refine ⟨isF_word s hr, ?_⟩
    unfold rv
    rw [fkey_word k s hr]
    cases s
    · simp only [Bool.false_eq_true, if_false]; rw [Rat.intCast_natCast]; grind
    · simp only [if_true]; rw [Rat.intCast_neg, Rat.intCast_natCast]; grind
  obtain ⟨r, hr, hrB, _⟩ := nearest_up k s (m := m) (e := e) (E := bias k) (R := 2 * bias k) (by cases k <;> decide) (by omega) h1 h2
  have hri : r < k.format.infRung := by
    rw [hinf, Nat.add_mul, Nat.one_mul]
    omega
  obtain ⟨f1, f2⟩ := hfin r hri
  refine ⟨by rw [hr]; exact f1, ?_⟩
  by_cases h0 : m = 0
  · have h00 : k.format.nearest s m e = k.format.word s 0 := by unfold Format.nearest; rw [if_pos h0]
    obtain ⟨_, f3⟩ := hfin 0 (by omega)
    refine ⟨0, ?_, by decide, ?_, ?_, fun _ _ => by rw [h0]; simp⟩
    · rw [h00, f3]
      have : rval k.format 0 = 0 := by unfold rval; rw [if_pos hB]
      rw [this]
      grind
    · rw [h0]; grind
    · rw [h0]; grind
  · have hL1 : m < 2 ^ (m.log2 + 1) := Nat.lt_log2_self
    have hL2 : 2 ^ m.log2 ≤ m := Nat.log2_self_le h0
    obtain ⟨last, hlast⟩ : ∃ last, last = max (e + m.log2 - k.format.fractionBits) k.format.leastPlace := ⟨_, rfl⟩
    obtain ⟨c, hc⟩ : ∃ c, c = Toward.even.cut s (m <<< (e - last).toNat) (last - e).toNat := ⟨_, rfl⟩
    have hn : k.format.nearest s m e = k.format.word s (min ((last - k.format.leastPlace).toNat * k.format.binade + c) k.format.infRung) := by
      unfold Format.nearest
      rw [if_neg h0, hc, hlast]
    have hmin : min ((last - k.format.leastPlace).toNat * k.format.binade + c) k.format.infRung = r := by
      have : k.format.word s (min ((last - k.format.leastPlace).toNat * k.format.binade + c) k.format.infRung) = k.format.word s r := by rw [← hn, hr]
      unfold Format.word at this
      cases s
      · exact this
      · exact Nat.add_left_cancel this
    have hrr : (last - k.format.leastPlace).toNat * k.format.binade + c = r := by omega
    have hbin : k.format.binade = 2 ^ k.format.fractionBits := rfl
    have hc2 : c ≤ 2 * k.format.binade := by
      rw [hc]
      apply cut_le
      rw [hbin, Nat.shiftLeft_eq, ← Nat.pow_succ', ← Nat.pow_add]
      have : m * 2 ^ (e - last).toNat ≤ 2 ^ (m.log2 + 1) * 2 ^ (e - last).toNat := Nat.mul_le_mul_right _ (Nat.le_of_lt hL1)
      refine Nat.le_trans this ?_
      rw [← Nat.pow_add]
      exact Nat.pow_le_pow_right (by decide) (by omega)
    have hc1 : (last - k.format.leastPlace).toNat = 0 ∨ k.format.binade ≤ c := by
      by_cases hl : last ≤ k.format.leastPlace
      · left; omega
      · right
        rw [hc]
        apply cut_ge
        rw [hbin, Nat.shiftLeft_eq, ← Nat.pow_add]
        have : 2 ^ m.log2 * 2 ^ (e - last).toNat ≤ m * 2 ^ (e - last).toNat := Nat.mul_le_mul_right _ hL2
        refine Nat.le_trans ?_ this
        rw [← Nat.pow_add]
        exact Nat.pow_le_pow_right (by decide) (by omega)
    have hval : (rval k.format r : Rat) * (2 : Rat) ^ k.format.leastPlace = c * (2 : Rat) ^ last := by
      rw [← hrr, rung_val k.format hc1 hc2, Rat.natCast_mul, ← znat, Rat.mul_assoc, ← zadd]
      congr 2
      omega
    have hT : 0 < (2 : Rat) ^ last := zpos _
    obtain ⟨T, hTe⟩ : ∃ T, T = (2 : Rat) ^ last := ⟨_, rfl⟩
    obtain ⟨q, hq⟩ : ∃ q, q = (m : Rat) * (2 : Rat) ^ e := ⟨_, rfl⟩
    obtain ⟨D, hD⟩ : ∃ D, D = ((2 ^ (last - e).toNat : Nat) : Rat) := ⟨_, rfl⟩
    have hDp : 0 < D := by rw [hD, ← znat]; exact zpos _
    have hqD : q * D = ((m <<< (e - last).toNat : Nat) : Rat) * T := by
      rw [hq, hD, hTe, Nat.shiftLeft_eq, Rat.natCast_mul, ← znat, ← znat, Rat.mul_assoc, ← zadd, Rat.mul_assoc, ← zadd]
      congr 2
      omega
    obtain ⟨x1, x2⟩ := cut_half s (m <<< (e - last).toNat) (last - e).toNat
    rw [← hc] at x1 x2
    have y1 : 2 * (c * D) ≤ 2 * ((m <<< (e - last).toNat : Nat) : Rat) + D := by
      have := Rat.natCast_le_natCast.2 x1
      rw [Rat.natCast_mul, Rat.natCast_mul, Rat.natCast_add, Rat.natCast_mul, ← hD] at this
      exact this
    have y2 : 2 * ((m <<< (e - last).toNat : Nat) : Rat) ≤ 2 * (c * D) + D := by
      have := Rat.natCast_le_natCast.2 x2
      rw [Rat.natCast_add, Rat.natCast_mul, Rat.natCast_mul, Rat.natCast_mul, ← hD] at this
      exact this
    obtain ⟨N, hN⟩ : ∃ N, N = ((m <<< (e - last).toNat : Nat) : Rat) := ⟨_, rfl⟩
    rw [← hN] at y1 y2 hqD
    have z1 : 2 * (c * T) ≤ 2 * q + T := by
      have h := Rat.mul_le_mul_of_nonneg_left y1 (Rat.le_of_lt (by rw [hTe]; exact hT) : (0 : Rat) ≤ T)
      have h' : D * (2 * (c * T)) ≤ D * (2 * q + T) := by grind
      exact Rat.le_of_mul_le_mul_left h' hDp
    have z2 : 2 * q ≤ 2 * (c * T) + T := by
      have h := Rat.mul_le_mul_of_nonneg_left y2 (Rat.le_of_lt (by rw [hTe]; exact hT) : (0 : Rat) ≤ T)
      have h' : D * (2 * q) ≤ D * (2 * (c * T) + T) := by grind
      exact Rat.le_of_mul_le_mul_left h' hDp
    have z3 : T ≤ 2 * (q * ulp k + eta k) := by
      have hq0 : 0 ≤ q := by
        rw [hq]
        exact Rat.mul_nonneg (by exact_mod_cast Nat.zero_le m) (Rat.le_of_lt (zpos _))
      by_cases hl : last = k.format.leastPlace
      · have e1 : T = 2 * eta k := by
          rw [hTe, hl]
          unfold eta
          rw [show k.format.leastPlace = 1 + (k.format.leastPlace - 1) by omega, zadd]
          rw [show (1 + (k.format.leastPlace - 1) - 1 : Int) = k.format.leastPlace - 1 by omega]
          rfl
        have := Rat.mul_nonneg hq0 (Rat.le_of_lt hu)
        grind
      · have e1 : T = 2 * ((2 : Rat) ^ (m.log2 : Int) * (2 : Rat) ^ e * ulp k) := by
          rw [hTe, show last = 1 + ((m.log2 : Int) + e + (-(k.format.fractionBits : Int) - 1)) by omega, zadd, zadd, zadd]
          rfl
        have e2 : (2 : Rat) ^ (m.log2 : Int) ≤ (m : Rat) := by rw [znat]; exact Rat.natCast_le_natCast.2 hL2
        have e3 := Rat.mul_le_mul_of_nonneg_right e2 (Rat.le_of_lt (zpos e))
        have e4 := Rat.mul_le_mul_of_nonneg_right e3 (Rat.le_of_lt hu)
        rw [← hq] at e4
        grind
    refine ⟨c * T, ?_, ?_, ?_, ?_, fun hm24 hle => ?_⟩
    · rw [hr, f2, hval, hTe]
    · exact Rat.mul_nonneg (by exact_mod_cast Nat.zero_le c) (Rat.le_of_lt (by rw [hTe]; exact hT))
    · rw [← hq]; grind
    · rw [← hq]; grind
    · have hl2 : m.log2 < k.format.fractionBits + 1 := (Nat.log2_lt h0).2 hm24
      have hz : (last - e).toNat = 0 := by omega
      rw [hz, cut_zero] at hc
      rw [hz] at hD
      have hD1 : D = 1 := by rw [hD]; rfl
      rw [hD1, hN, ← hc] at hqD
      grind
theorem ab_sv (s : Bool) (m : Nat) (e : Int) : ab (sv s m e) = m * (2 : Rat) ^ e := by
  have h : 0 ≤ (m : Rat) * (2 : Rat) ^ e := Rat.mul_nonneg (by exact_mod_cast Nat.zero_le m) (Rat.le_of_lt (zpos _))
  unfold sv
  cases s
  · simp only [Bool.false_eq_true, if_false]; rw [show (1 : Rat) * (m * 2 ^ e) = m * 2 ^ e by grind, ab_of_nonneg h]
  · simp only [if_true]; rw [show (-1 : Rat) * (m * 2 ^ e) = -(m * 2 ^ e) by grind, ab_neg, ab_of_nonneg h]
theorem isF_zero (k : FloatKind) (s : Bool) : isF k (k.format.word s 0) ∧ rv k (k.format.word s 0) = 0 := by
  have hinf := inf_eq k
  have hB := binade_pos k.format
  have h0 : 0 < k.format.infRung := by rw [hinf, Nat.add_mul]; omega
  refine ⟨isF_word s h0, ?_⟩
  have : rval k.format 0 = 0 := by unfold rval; rw [if_pos hB]
  unfold rv
  rw [fkey_word k s h0, this]
  cases s <;> simp
/-- A number that is written. -/
theorem near_write (k : FloatKind) (s : Bool) (m : Nat) (e : Int) {v : Rat} (hv : sv s m e = v) (hb : ab v ≤ (2 : Rat) ^ (bias k : Int)) : Near k (k.format.write (.number s m e)) v := by
  have hu : 0 < ulp k := zpos _
  have he : 0 < eta k := zpos _
  show Near k (k.format.nearest s m e) v
  by_cases h0 : m = 0
  · have h00 : k.format.nearest s m e = k.format.word s 0 := by unfold Format.nearest; rw [if_pos h0]
    obtain ⟨f, z⟩ := isF_zero k s
    have hv0 : v = 0 := by rw [← hv, h0]; unfold sv; grind
    have ha : ab v = 0 := by rw [hv0]; rfl
    rw [h00]
    refine ⟨f, ?_, ?_, fun _ => by rw [z]; exact Rat.le_refl, fun _ => by rw [z]; exact Rat.le_refl⟩
    · rw [z, ha, hv0]; grind
    · rw [z, ha, hv0]; grind
  · have hab := ab_sv s m e
    rw [hv] at hab
    rw [hab] at hb
    have hm1 : (1 : Rat) ≤ (m : Rat) := by exact_mod_cast Nat.one_le_iff_ne_zero.2 h0
    have h1 : e ≤ bias k := by
      rcases Int.lt_or_le (bias k) e with h | h
      · exfalso
        have a := zle (show (bias k : Int) + 1 ≤ e by omega)
        have b := Rat.mul_le_mul_of_nonneg_right hm1 (Rat.le_of_lt (zpos e))
        rw [zadd] at a
        have c := zpos (bias k : Int)
        have d : (2 : Rat) ^ (1 : Int) = 2 := rfl
        grind
      · exact h
    have h2 : m ≤ 2 ^ ((bias k : Int) - e).toNat := by
      have a : (2 : Rat) ^ (bias k : Int) = (2 : Rat) ^ (((bias k : Int) - e).toNat : Int) * (2 : Rat) ^ e := by rw [← zadd]; congr 1; omega
      rw [a, znat] at hb
      exact Rat.natCast_le_natCast.1 (Rat.le_of_mul_le_mul_right hb (zpos e))
    obtain ⟨f, w, hw, hw0, u, l, _⟩ := near_val k s h1 h2
    have hq : 0 < (m : Rat) * (2 : Rat) ^ e := Rat.mul_pos (by grind) (zpos e)
    refine ⟨f, ?_, ?_, ?_, ?_⟩
    · rw [hw, hab, ← hv]
      unfold sv
      cases s
      · simp only [Bool.false_eq_true, if_false]; grind
      · simp only [if_true]; grind
    · rw [hw, hab, ← hv]
      unfold sv
      cases s
      · simp only [Bool.false_eq_true, if_false]; grind
      · simp only [if_true]; grind
    · rw [hw, ← hv]
      unfold sv
      cases s
      · simp only [Bool.false_eq_true, if_false]; grind
      · simp only [if_true]; grind
    · rw [hw, ← hv]
      unfold sv
      cases s
      · simp only [Bool.false_eq_true, if_false]; grind
      · simp only [if_true]; grind
theorem bound_of {k : FloatKind} {m : Nat} {e : Int} (h0 : m ≠ 0) (hb : (m : Rat) * (2 : Rat) ^ e ≤ (2 : Rat) ^ (bias k : Int)) : e ≤ bias k ∧ m ≤ 2 ^ ((bias k : Int) - e).toNat := by
  have hm1 : (1 : Rat) ≤ (m : Rat) := by exact_mod_cast Nat.one_le_iff_ne_zero.2 h0
  have h1 : e ≤ bias k := by
    rcases Int.lt_or_le (bias k) e with h | h
    · exfalso
      have a := zle (show (bias k : Int) + 1 ≤ e by omega)
      have b := Rat.mul_le_mul_of_nonneg_right hm1 (Rat.le_of_lt (zpos e))
      rw [zadd] at a
      have c := zpos (bias k : Int)
      have d : (2 : Rat) ^ (1 : Int) = 2 := rfl
      grind
    · exact h
  refine ⟨h1, ?_⟩
  have a : (2 : Rat) ^ (bias k : Int) = (2 : Rat) ^ (((bias k : Int) - e).toNat : Int) * (2 : Rat) ^ e := by rw [← zadd]; congr 1; omega
  rw [a, znat] at hb
  exact Rat.natCast_le_natCast.1 (Rat.le_of_mul_le_mul_right hb (zpos e))
/-- A number that the format has is written as it is. -/
theorem write_exact (k : FloatKind) (s : Bool) (m : Nat) (e : Int) (h1 : m < 2 ^ (k.format.fractionBits + 1)) (h2 : k.format.leastPlace ≤ e) (hb : (m : Rat) * (2 : Rat) ^ e ≤ (2 : Rat) ^ (bias k : Int)) :
    isF k (k.format.write (.number s m e)) ∧ rv k (k.format.write (.number s m e)) = sv s m e := by
  show isF k (k.format.nearest s m e) ∧ rv k (k.format.nearest s m e) = sv s m e
  by_cases h0 : m = 0
  · have h00 : k.format.nearest s m e = k.format.word s 0 := by unfold Format.nearest; rw [if_pos h0]
    obtain ⟨f, z⟩ := isF_zero k s
    rw [h00]
    refine ⟨f, ?_⟩
    rw [z, h0]; unfold sv; simp
  · obtain ⟨a, b⟩ := bound_of h0 hb
    obtain ⟨f, w, hw, hw0, u, l, x⟩ := near_val k s a b
    refine ⟨f, ?_⟩
    rw [hw, x h1 h2]
    rfl
/-- A 32-bit number widened is the same number. -/
theorem wide_val {x : Nat} (h : isF .f32 x) : isF .f64 (c64 x) ∧ rv .f64 (c64 x) = rv .f32 x := by
  obtain ⟨s, m, e, hr, he, hv⟩ := h.val
  have hn := h.num
  have hb := single_bounds (show single.read x = .number s m e from hr)
  have e1 : c64 x = FloatKind.f64.format.write (.number s m e) := by
    unfold c64
    rw [hn]
    show double.write (single.read x) = _
    rw [show single.read x = .number s m e from hr]
    rfl
  have hlp : FloatKind.f64.format.leastPlace = -1074 := by decide +kernel
  have h1 : (m : Rat) ≤ (2 : Rat) ^ (24 : Int) := by
    have := Rat.natCast_le_natCast.2 (Nat.le_of_lt hb.1)
    exact this
  have h2 := zle (show e ≤ 104 by omega)
  have h3 : (m : Rat) * (2 : Rat) ^ e ≤ (2 : Rat) ^ (24 : Int) * (2 : Rat) ^ (104 : Int) := by
    have a := Rat.mul_le_mul_of_nonneg_right h1 (Rat.le_of_lt (zpos e))
    have b := Rat.mul_le_mul_of_nonneg_left h2 (Rat.le_of_lt (zpos 24))
    exact Rat.le_trans a b
  rw [← zadd] at h3
  have h4 := Rat.le_trans h3 (zle (show (24 : Int) + 104 ≤ (bias .f64 : Int) by decide))
  have hx := write_exact .f64 s m e (Nat.lt_trans hb.1 (by decide)) (by rw [hlp]; omega) h4
  rw [e1, hv]
  exact hx
/-- A 64-bit number narrowed. -/
theorem narrow_val {x : Nat} (h : isF .f64 x) (hb : ab (rv .f64 x) ≤ (2 : Rat) ^ (bias .f32 : Int)) : nfit x = true ∧ Near .f32 (n32 x) (rv .f64 x) := by
  obtain ⟨s, m, e, hr, he, hv⟩ := h.val
  have hN := near_write .f32 s m e hv.symm hb
  have e1 : n32 x = FloatKind.f32.format.write (.number s m e) := by
    unfold n32
    rw [h.num]
    show single.write (double.read x) = _
    rw [show double.read x = .number s m e from hr]
    rfl
  refine ⟨?_, by rw [e1]; exact hN⟩
  obtain ⟨t, n, j, hr2, _⟩ := hN.fin
  unfold nfit
  rw [show double.read x = .number s m e from hr]
  show (!(single.read (single.write (.number s m e))).isInfinity) = true
  rw [show single.read (single.write (.number s m e)) = .number t n j from hr2]
  rfl
theorem ndr_zero {x : Nat} (h : isF .f64 x) : ndr x = 0 ∧ ∀ w, nres x w = n32 x := by
  have hn := h.num
  exact ⟨by unfold ndr; rw [hn]; rfl, fun w => by unfold nres n32; rw [hn]; rfl⟩
theorem wdr_zero {x : Nat} (h : isF .f32 x) : wdr x = 0 ∧ ∀ w, wres x w = c64 x := by
  have hn := h.num
  exact ⟨by unfold wdr; rw [hn]; rfl, fun w => by unfold wres c64; rw [hn]; rfl⟩
theorem isF.cn {k : FloatKind} {x : Nat} (h : isF k x) : cn k x = x := cn_of_not h.num
/-- Order is that of the rational numbers. -/
theorem order_val {k : FloatKind} {x y : Nat} (hx : isF k x) (hy : isF k y) : (ford k x y = some .lt ↔ rv k x < rv k y) ∧ (ford k x y = some .gt ↔ rv k y < rv k x) ∧ (ford k x y = some .eq ↔ rv k x = rv k y) := by
  have hp := zpos k.format.leastPlace
  have hlt : ∀ a b : Int, a < b ↔ (a : Rat) * (2 : Rat) ^ k.format.leastPlace < (b : Rat) * (2 : Rat) ^ k.format.leastPlace := fun a b =>
    ⟨fun h => Rat.mul_lt_mul_of_pos_right (Rat.intCast_lt_intCast.2 h) hp, fun h => by
      rcases Int.lt_or_le a b with h1 | h1
      · exact h1
      · exfalso
        have := Rat.mul_le_mul_of_nonneg_right (Rat.intCast_le_intCast.2 h1) (Rat.le_of_lt hp)
        grind⟩
  rw [ford_key hx.num hy.num]
  unfold rv
  rcases Int.lt_trichotomy (fkey k x) (fkey k y) with h | h | h
  · rw [cmp_lt h]
    have := (hlt _ _).1 h
    refine ⟨⟨fun _ => this, fun _ => rfl⟩, ⟨fun h => (by cases h), fun h => (by grind)⟩, ⟨fun h => (by cases h), fun h => (by grind)⟩⟩
  · rw [h, cmp_eq]
    refine ⟨⟨fun h => (by cases h), fun h => (by grind)⟩, ⟨fun h => (by cases h), fun h => (by grind)⟩, ⟨fun _ => rfl, fun _ => rfl⟩⟩
  · rw [cmp_gt h]
    have := (hlt _ _).1 h
    refine ⟨⟨fun h => (by cases h), fun h => (by grind)⟩, ⟨fun _ => this, fun _ => rfl⟩, ⟨fun h => (by cases h), fun h => (by grind)⟩⟩
theorem det1 {op : BinOp} {k : FloatKind} {x y : Nat} {d : Datum} (h : floatBits op k x y = some (k.format.write d)) (hd : d.isNaN = false) : (∀ w, fres op k x y w = fop op k x y) ∧ fdr op k x y = 0 ∧ fop op k x y = k.format.write d := by
  have hf := fop_of h hd
  exact ⟨fun w => by unfold fres; rw [h, hf], by unfold fdr; rw [h], hf⟩
/-- An operation on numbers: what it gives, nearly; nothing is drawn. -/
structure OpN (op : BinOp) (k : FloatKind) (x y : Nat) (v : Rat) : Prop where
  res : ∀ w, fres op k x y w = fop op k x y
  dr : fdr op k x y = 0
  near : Near k (fop op k x y) v
theorem sv_not (s : Bool) (m : Nat) (e : Int) : sv (!s) m e = -sv s m e := by unfold sv; cases s <;> simp <;> grind
theorem sv_total (b : Bool) (t : Int) (e : Int) (hb : t ≠ 0 → b = decide (t < 0)) : sv b t.natAbs e = (t : Rat) * (2 : Rat) ^ e := by
  unfold sv
  by_cases h0 : t = 0
  · subst h0; simp
  · rw [hb h0]
    rcases Int.lt_or_le t 0 with h | h
    · have e1 : t = -(t.natAbs : Int) := by omega
      have e2 : (t : Rat) = -(t.natAbs : Rat) := by
        have := congrArg (fun z : Int => (z : Rat)) e1
        rw [Rat.intCast_neg, Rat.intCast_natCast] at this
        exact this
      rw [decide_eq_true h, if_pos rfl, e2]
      grind
    · have e1 : t = (t.natAbs : Int) := by omega
      have e2 : (t : Rat) = (t.natAbs : Rat) := by
        have := congrArg (fun z : Int => (z : Rat)) e1
        rw [Rat.intCast_natCast] at this
        exact this
      rw [decide_eq_false (by omega), if_neg (by decide), e2]
      grind
theorem near_sum {k : FloatKind} {s t : Bool} {m n : Nat} {i j : Int} {v : Rat} (hv : sv s m i + sv t n j = v) (hb : ab v ≤ (2 : Rat) ^ (bias k : Int)) :
    ∃ d, (Datum.number s m i).sum (Datum.number t n j) = some d ∧ d.isNaN = false ∧ Near k (k.format.write d) v := by
  refine ⟨_, rfl, rfl, near_write k _ _ _ ?_ hb⟩
  rw [sv_total]
  · rw [Rat.intCast_add, ← hv]
    have a := sv_key s m (Int.min_le_left i j)
    have b := sv_key t n (Int.min_le_right i j)
    rw [← a, ← b]
    grind
  · intro h
    rw [if_neg h]
theorem op_add {k : FloatKind} {x y : Nat} (hx : isF k x) (hy : isF k y) (hb : ab (rv k x + rv k y) ≤ (2 : Rat) ^ (bias k : Int)) : OpN .add k x y (rv k x + rv k y) := by
  obtain ⟨s, m, i, rx, _, vx⟩ := hx.val
  obtain ⟨t, n, j, ry, _, vy⟩ := hy.val
  obtain ⟨d, hd, hn, hN⟩ := near_sum (k := k) (v := rv k x + rv k y) (by rw [vx, vy]) hb
  obtain ⟨a, b, c⟩ := det1 (op := .add) (k := k) (x := x) (y := y) (d := d) (by simp [floatBits, Format.add, rx, ry, hd]) hn
  exact ⟨a, b, by rw [c]; exact hN⟩
theorem op_sub {k : FloatKind} {x y : Nat} (hx : isF k x) (hy : isF k y) (hb : ab (rv k x - rv k y) ≤ (2 : Rat) ^ (bias k : Int)) : OpN .sub k x y (rv k x - rv k y) := by
  obtain ⟨s, m, i, rx, _, vx⟩ := hx.val
  obtain ⟨t, n, j, ry, _, vy⟩ := hy.val
  obtain ⟨d, hd, hn, hN⟩ := near_sum (k := k) (s := s) (t := !t) (m := m) (n := n) (i := i) (j := j) (v := rv k x - rv k y) (by rw [vx, vy, sv_not]; grind) hb
  obtain ⟨a, b, c⟩ := det1 (op := .sub) (k := k) (x := x) (y := y) (d := d) (by simp [floatBits, Format.sub, rx, ry, hd, Datum.opposite]) hn
  exact ⟨a, b, by rw [c]; exact hN⟩
theorem op_mul {k : FloatKind} {x y : Nat} (hx : isF k x) (hy : isF k y) (hb : ab (rv k x * rv k y) ≤ (2 : Rat) ^ (bias k : Int)) : OpN .mul k x y (rv k x * rv k y) := by
  obtain ⟨s, m, i, rx, _, vx⟩ := hx.val
  obtain ⟨t, n, j, ry, _, vy⟩ := hy.val
  have hN := near_write k (s ^^ t) (m * n) (i + j) (v := rv k x * rv k y) (by
    rw [vx, vy]
    unfold sv
    rw [Rat.natCast_mul, zadd]
    cases s <;> cases t <;> simp <;> grind) hb
  obtain ⟨a, b, c⟩ := det1 (op := .mul) (k := k) (x := x) (y := y) (d := .number (s ^^ t) (m * n) (i + j)) (by simp [floatBits, Format.mul, rx, ry, Datum.product]) rfl
  exact ⟨a, b, by rw [c]; exact hN⟩
theorem sv_zero (s : Bool) (e : Int) : sv s 0 e = 0 := by unfold sv; simp
theorem ab_zero : ab 0 = 0 := rfl
theorem alg1 {p g u a : Rat} (h : p * u = 1) (h6 : 2 * (p * g) * u ≤ a * u) : 2 * g ≤ a * u := by
  have e : 2 * (p * g) * u = 2 * g := by grind
  rw [e] at h6
  exact h6
theorem alg2 {n A a q g z d : Rat} (hV : A = (2 * q + 1) * g) (ha : a * n = 2 * (d * g)) (hd : d = n * q + z) : n * (A - a) = n * g - 2 * (z * g) := by grind
theorem alg3 {n A a g z : Rat} (e : n * (A - a) = n * g - 2 * (z * g)) (k1 : z * g ≤ n * g) (k2 : 0 ≤ z * g) : n * (A - a) ≤ n * g ∧ n * (a - A) ≤ n * g := by
  have e2 : n * (a - A) = -(n * (A - a)) := by grind
  rw [e2, e]
  constructor <;> grind
/-- A quotient. -/
structure OpQ (op : BinOp) (k : FloatKind) (x y : Nat) (v : Rat) : Prop where
  res : ∀ w, fres op k x y w = fop op k x y
  dr : fdr op k x y = 0
  fin : isF k (fop op k x y)
  up : rv k (fop op k x y) - v ≤ 2 * (ab v * ulp k) + eta k
  lo : v - rv k (fop op k x y) ≤ 2 * (ab v * ulp k) + eta k
theorem op_quo {k : FloatKind} {x y : Nat} (hx : isF k x) (hy : isF k y) (h0 : rv k y ≠ 0) {v : Rat} (hv : v * rv k y = rv k x) (hb : 2 * ab v ≤ (2 : Rat) ^ (bias k : Int)) : OpQ .quo k x y v := by
  obtain ⟨s, m, i, rx, _, vx⟩ := hx.val
  obtain ⟨t, n, j, ry, _, vy⟩ := hy.val
  have hn : n ≠ 0 := fun e => h0 (by rw [vy, e, sv_zero])
  have hu : 0 < ulp k := zpos _
  have he : 0 < eta k := zpos _
  obtain ⟨more, hmore⟩ : ∃ a, a = k.format.fractionBits + 2 + n.log2 - m.log2 := ⟨_, rfl⟩
  have hfb : floatBits .quo k x y = some (k.format.write (.number (s ^^ t) (2 * ((m <<< more) / n) + ((m <<< more) % n != 0).toNat) (i - j - more - 1))) := by
    have : k.format.div x y = some (k.format.write (.number (s ^^ t) (2 * ((m <<< more) / n) + ((m <<< more) % n != 0).toNat) (i - j - more - 1))) := by
      unfold Format.div Datum.quotient
      rw [rx, ry]
      simp only [hn, if_false, Option.map_some, hmore]
    simpa [floatBits] using this
  obtain ⟨a, b, c⟩ := det1 hfb rfl
  obtain ⟨q, hq⟩ : ∃ q, q = (m <<< more) / n := ⟨_, rfl⟩
  obtain ⟨st, hst⟩ : ∃ q, q = ((m <<< more) % n != 0).toNat := ⟨_, rfl⟩
  rw [← hq, ← hst] at c
  have hd := Nat.div_add_mod (m <<< more) n
  have hml := Nat.mod_lt (m <<< more) (Nat.pos_of_ne_zero hn)
  rw [← hq] at hd
  obtain ⟨V, hV⟩ : ∃ V, V = sv (s ^^ t) (2 * q + st) (i - j - more - 1) := ⟨_, rfl⟩
  obtain ⟨g, hg⟩ : ∃ g, g = (2 : Rat) ^ (i - j - (more : Int) - 1) := ⟨_, rfl⟩
  have hgp : 0 < g := by rw [hg]; exact zpos _
  obtain ⟨J, hJ⟩ : ∃ J, J = (2 : Rat) ^ j := ⟨_, rfl⟩
  have hJp : 0 < J := by rw [hJ]; exact zpos _
  have hnp : (0 : Rat) < (n : Rat) := by exact_mod_cast Nat.pos_of_ne_zero hn
  -- the exact quotient's size
  have hav : ab v * (n * J) = m * (2 : Rat) ^ i := by
    have h := congrArg ab hv
    rw [ab_mul, vx, vy, ab_sv, ab_sv, ← hJ] at h
    exact h
  have hdv : ((m <<< more : Nat) : Rat) = (m : Rat) * (2 : Rat) ^ (more : Int) := by rw [Nat.shiftLeft_eq, Rat.natCast_mul, znat]
  -- in units of g
  have hi : (2 : Rat) ^ i = 2 * ((2 : Rat) ^ (more : Int) * (g * J)) := by
    rw [hg, hJ, show i = 1 + ((more : Int) + ((i - j - (more : Int) - 1) + j)) by omega, zadd, zadd, zadd, show (1 + ((more : Int) + ((i - j - (more : Int) - 1) + j)) - j - (more : Int) - 1 : Int) = i - j - (more : Int) - 1 by omega]
    rfl
  have hav2 : ab v * n = 2 * (((m <<< more : Nat) : Rat) * g) := by
    have h : J * (ab v * n) = J * (2 * (((m <<< more : Nat) : Rat) * g)) := by rw [hdv]; grind
    grind
  have habV : ab V = ((2 * q + st : Nat) : Rat) * g := by rw [hV, ab_sv, hg]
  have hul : ulp k ≤ 1 := by
    have := zle (show -(k.format.fractionBits : Int) - 1 ≤ 0 by omega)
    exact this
  have hg2 : m ≠ 0 → 2 * g ≤ ab v * ulp k := fun hm => by
    have h1 : 2 ^ (k.format.fractionBits + 1) * n ≤ m <<< more := by
      have hL1 : n < 2 ^ (n.log2 + 1) := Nat.lt_log2_self
      have hL2 : 2 ^ m.log2 ≤ m := Nat.log2_self_le hm
      rw [Nat.shiftLeft_eq]
      have a1 : 2 ^ (k.format.fractionBits + 1) * n ≤ 2 ^ (k.format.fractionBits + 1) * 2 ^ (n.log2 + 1) := Nat.mul_le_mul_left _ (Nat.le_of_lt hL1)
      have a2 : 2 ^ m.log2 * 2 ^ more ≤ m * 2 ^ more := Nat.mul_le_mul_right _ hL2
      refine Nat.le_trans a1 (Nat.le_trans ?_ a2)
      rw [← Nat.pow_add, ← Nat.pow_add]
      exact Nat.pow_le_pow_right (by decide) (by omega)
    have h2 : ((2 ^ (k.format.fractionBits + 1) : Nat) : Rat) * n ≤ ((m <<< more : Nat) : Rat) := by
      rw [← Rat.natCast_mul]; exact Rat.natCast_le_natCast.2 h1
    have h3 := Rat.mul_le_mul_of_nonneg_right h2 (Rat.le_of_lt hgp)
    obtain ⟨p, hp⟩ : ∃ p, p = ((2 ^ (k.format.fractionBits + 1) : Nat) : Rat) := ⟨_, rfl⟩
    have hpu : p * ulp k = 1 := by
      rw [hp, ← znat]
      unfold ulp
      rw [← zadd, show ((k.format.fractionBits + 1 : Nat) : Int) + (-(k.format.fractionBits : Int) - 1) = 0 by omega]
      rfl
    rw [← hp] at h3
    have h4 : n * (2 * (p * g)) ≤ n * ab v := by grind
    have h5 := Rat.le_of_mul_le_mul_left h4 hnp
    have h6 := Rat.mul_le_mul_of_nonneg_right h5 (Rat.le_of_lt hu)
    exact alg1 hpu h6
  have hsig : ∃ σ : Rat, (σ = 1 ∨ σ = -1) ∧ V = σ * ab V ∧ v = σ * ab v := by
    refine ⟨if (s ^^ t) then -1 else 1, by cases s <;> cases t <;> simp, ?_, ?_⟩
    · rw [habV, hV, hg]; rfl
    · have h := hv
      rw [vx, vy] at h
      unfold sv at h
      rw [← hJ] at h
      have hnJ : (n : Rat) * J ≠ 0 := by
        have := Rat.mul_pos hnp hJp
        grind
      have h2 : (n * J) * v = (n * J) * ((if (s ^^ t) then -1 else 1) * ab v) := by
        have h3 := hav
        cases s <;> cases t <;> simp at h ⊢ <;> grind
      grind
  have hdr : ((m <<< more : Nat) : Rat) = n * q + ((m <<< more % n : Nat) : Rat) := by
    have := congrArg (fun z : Nat => (z : Rat)) hd
    simp only [Rat.natCast_add, Rat.natCast_mul] at this
    exact this.symm
  have hdist : ab V - ab v ≤ ab v * ulp k / 2 ∧ ab v - ab V ≤ ab v * ulp k / 2 := by
    have hc0 : 0 ≤ ab v * ulp k := Rat.mul_nonneg (ab_nonneg v) (Rat.le_of_lt hu)
    by_cases hr : m <<< more % n = 0
    · have hs0 : st = 0 := by rw [hst, hr]; rfl
      have : n * ab V = n * ab v := by
        rw [hr] at hdr
        rw [habV, hs0, Rat.natCast_add, Rat.natCast_mul]
        have e2 : ((2 : Nat) : Rat) = 2 := rfl
        have e0 : ((0 : Nat) : Rat) = 0 := rfl
        rw [e2, e0]
        grind
      have h2 : ab V = ab v := by grind
      grind
    · have hm : m ≠ 0 := fun e => hr (by rw [e]; simp)
      have hs1 : st = 1 := by rw [hst]; simp [hr]
      have hgg := hg2 hm
      obtain ⟨z, hz⟩ : ∃ z, z = ((m <<< more % n : Nat) : Rat) := ⟨_, rfl⟩
      have z1 : z ≤ n := by rw [hz]; exact Rat.natCast_le_natCast.2 (Nat.le_of_lt hml)
      have z0 : 0 ≤ z := by rw [hz]; exact_mod_cast Nat.zero_le _
      rw [← hz] at hdr
      have hV2 : ab V = (2 * q + 1) * g := by
        rw [habV, hs1, Rat.natCast_add, Rat.natCast_mul]
        rfl
      have k1 := Rat.mul_le_mul_of_nonneg_right z1 (Rat.le_of_lt hgp)
      have k2 := Rat.mul_nonneg z0 (Rat.le_of_lt hgp)
      obtain ⟨h1, h2⟩ := alg3 (alg2 hV2 hav2 hdr) k1 k2
      have h1' := Rat.le_of_mul_le_mul_left h1 hnp
      have h2' := Rat.le_of_mul_le_mul_left h2 hnp
      grind
  obtain ⟨d1, d2⟩ := hdist
  have hc0 : 0 ≤ ab v * ulp k := Rat.mul_nonneg (ab_nonneg v) (Rat.le_of_lt hu)
  have hc1 : ab v * ulp k ≤ ab v := by
    have := Rat.mul_le_mul_of_nonneg_left hul (ab_nonneg v)
    grind
  have hN := near_write k (s ^^ t) (2 * q + st) (i - j - more - 1) hV.symm (by grind)
  have hVu : ab V * ulp k ≤ ab v * ulp k + ab v * ulp k / 2 := by
    have h1 : ab V ≤ ab v + ab v * ulp k / 2 := by grind
    have h2 := Rat.mul_le_mul_of_nonneg_right h1 (Rat.le_of_lt hu)
    have h3 := Rat.mul_le_mul_of_nonneg_left hul hc0
    grind
  obtain ⟨σ, hσ, sV, sv'⟩ := hsig
  refine ⟨a, b, by rw [c]; exact hN.fin, ?_, ?_⟩
  · rw [c]
    have := hN.up
    rcases hσ with h | h <;> rw [h] at sV sv' <;> grind
  · rw [c]
    have := hN.lo
    rcases hσ with h | h <;> rw [h] at sV sv' <;> grind
end Go.Proofs.Ytamgekijihpgkaa
