/- Fractions of turns in 64 bits, more: sums by their whole-number keys, the fraction. Plain: nothing of the dump. -/
import Derived.Test.YtamgekijihpgkaaPhas
import Derived.Laws.Cover2
namespace Go.Proofs.Ytamgekijihpgkaa
open Ieee

/-- A power of two, not reckoned out. -/
def pw (n : Nat) : Nat := 2 ^ n
theorem pw_pos (n : Nat) : 0 < pw n := Nat.two_pow_pos n
theorem pw_add (a b : Nat) : pw (a + b) = pw a * pw b := Nat.pow_add 2 a b
theorem pw_eq (n : Nat) : pw n = 2 ^ n := rfl
/-- It reads as a finite number. -/
def Fin64 (x : Nat) : Prop := ∃ s m e, double.read x = .number s m e ∧ -1074 ≤ e
theorem fin_word (s : Bool) {r : Nat} (h : r < 2047 * 4503599627370496) : Fin64 (double.word s r) := by
  obtain ⟨m, e, a, b, _⟩ := read_rung double s (r := r) (by rw [inf64]; exact h) (infRung_lt' .f64)
  exact ⟨s, m, e, a, by rw [lp64] at b; exact b⟩
theorem key_of {x : Nat} {s : Bool} {m : Nat} {e : Int} (h : double.read x = .number s m e) : fkey .f64 x = signed s m (e + 1074).toNat := by
  show dkey double.leastPlace (double.read x) = _
  rw [h, lp64]
  show signed s m (e - -1074).toNat = _
  rw [show e - -1074 = e + 1074 by omega]
theorem key_word (s : Bool) {r : Nat} (h : r < 2047 * 4503599627370496) : fkey .f64 (double.word s r) = if s then -(rval double r : Int) else (rval double r : Int) :=
  fkey_word .f64 s (r := r) (by show r < double.infRung; rw [inf64]; exact h)
theorem gsum {s t : Bool} {m n : Nat} {e j : Int} (R : Nat) (he : -1074 ≤ e) (hj : -1074 ≤ j) (h1 : 1 ≤ R) (hs : (signed s m (e + 1074).toNat + signed t n (j + 1074).toNat).natAbs ≤ pw (R + 51)) :
    ∃ d sg r, Datum.sum (.number s m e) (.number t n j) = some d ∧ d.isNaN = false ∧ double.write d = double.word sg r ∧ r ≤ R * 4503599627370496 ∧
      (0 < signed s m (e + 1074).toNat + signed t n (j + 1074).toNat → sg = false) ∧ (signed s m (e + 1074).toNat + signed t n (j + 1074).toNat < 0 → sg = true) ∧ (signed s m (e + 1074).toNat + signed t n (j + 1074).toNat = 0 → r = 0) := by
  have e1 : (e + 1074).toNat = (e - min e j).toNat + (min e j + 1074).toNat := by omega
  have e2 : (j + 1074).toNat = (j - min e j).toNat + (min e j + 1074).toNat := by omega
  rw [e1, e2, signed_shift, signed_shift, ← Int.add_mul] at hs
  rw [e1, e2, signed_shift, signed_shift, ← Int.add_mul]
  have hb : -1074 ≤ min e j := by omega
  generalize hT : signed s m (e - min e j).toNat + signed t n (j - min e j).toNat = T at hs ⊢
  have hp : 0 < 2 ^ (min e j + 1074).toNat := Nat.two_pow_pos _
  have hpos : (0 : Int) < ((2 ^ (min e j + 1074).toNat : Nat) : Int) := by omega
  rw [Int.natAbs_mul, Int.natAbs_natCast] at hs
  have hsum : Datum.sum (.number s m e) (.number t n j) = some (.number (if T = 0 then s && t else decide (T < 0)) T.natAbs (min e j)) := by
    unfold Datum.sum
    simp only [hT]
  by_cases h0 : T = 0
  · subst h0
    refine ⟨.number (if (0 : Int) = 0 then s && t else decide ((0 : Int) < 0)) (Int.natAbs 0) (min e j), (if (0 : Int) = 0 then s && t else decide ((0 : Int) < 0)), 0, hsum, rfl, ?_, Nat.zero_le _, ?_, ?_, fun _ => rfl⟩
    · show double.nearest _ _ _ = _
      unfold Format.nearest
      rw [if_pos (by rfl)]
    · intro h; rw [Int.zero_mul] at h; omega
    · intro h; rw [Int.zero_mul] at h; omega
  · have hg : (min e j + 1074).toNat ≤ R + 51 := by
      rcases Nat.lt_or_ge (R + 51) (min e j + 1074).toNat with h | h
      · exfalso
        have h2 : pw (R + 51) < 2 ^ (min e j + 1074).toNat := by unfold pw; exact Nat.pow_lt_pow_right (by decide) h
        have h3 : 1 * 2 ^ (min e j + 1074).toNat ≤ T.natAbs * 2 ^ (min e j + 1074).toNat := Nat.mul_le_mul_right _ (by omega)
        omega
      · exact h
    have hm : T.natAbs ≤ 2 ^ ((R : Int) - 1023 - min e j).toNat := by
      have : pw (R + 51) = 2 ^ ((R : Int) - 1023 - min e j).toNat * 2 ^ (min e j + 1074).toNat := by unfold pw; rw [← Nat.pow_add]; congr 1; omega
      rw [this] at hs
      exact Nat.le_of_mul_le_mul_right hs hp
    obtain ⟨r, a, b⟩ := up64 (neg := if T = 0 then s && t else decide (T < 0)) R h1 (by omega) hm
    refine ⟨.number (if T = 0 then s && t else decide (T < 0)) T.natAbs (min e j), (if T = 0 then s && t else decide (T < 0)), r, hsum, rfl, a, b, ?_, ?_, ?_⟩
    · intro h
      have : 0 < T := by
        rcases Int.lt_trichotomy T 0 with h' | h' | h'
        · have := Int.mul_neg_of_neg_of_pos h' hpos; omega
        · exact absurd h' h0
        · exact h'
      rw [if_neg h0]; simp; omega
    · intro h
      have : T < 0 := by
        rcases Int.lt_trichotomy T 0 with h' | h' | h'
        · exact h'
        · exact absurd h' h0
        · have := Int.mul_pos h' hpos; omega
      rw [if_neg h0]; simp; omega
    · intro h
      exfalso
      rcases Int.mul_eq_zero.1 h with h' | h'
      · exact h0 h'
      · omega
/-- What is known of a sum of finite numbers by their keys. -/
structure KSum (op : BinOp) (x y : Nat) (K : Int) (R : Nat) : Prop where
  res : ∀ w, fres op .f64 x y w = fop op .f64 x y
  dr : fdr op .f64 x y = 0
  wd : ∃ sg r, fop op .f64 x y = double.word sg r ∧ r ≤ R * 4503599627370496 ∧ (0 < K → sg = false) ∧ (K < 0 → sg = true) ∧ (K = 0 → r = 0)
theorem add_key {x y : Nat} (R : Nat) (hx : Fin64 x) (hy : Fin64 y) (h1 : 1 ≤ R) (h : (fkey .f64 x + fkey .f64 y).natAbs ≤ pw (R + 51)) : KSum .add x y (fkey .f64 x + fkey .f64 y) R := by
  obtain ⟨s, m, e, rx, he⟩ := hx
  obtain ⟨t, n, j, ry, hj⟩ := hy
  rw [key_of rx, key_of ry] at h ⊢
  obtain ⟨d, sg, r, hd, hn, hw, a1, a2, a3, a4⟩ := gsum R he hj h1 h
  obtain ⟨b1, b2, b3⟩ := det0 (op := .add) (k := .f64) (x := x) (y := y) (d := d) (by simp [floatBits, FloatKind.format, Format.add, rx, ry, hd]) hn
  exact ⟨b1, b2, sg, r, by rw [b3]; exact hw, a1, a2, a3, a4⟩
theorem signed_not (s : Bool) (m a : Nat) : signed (!s) m a = - signed s m a := by
  unfold signed
  cases s <;> simp
theorem sub_key {x y : Nat} (R : Nat) (hx : Fin64 x) (hy : Fin64 y) (h1 : 1 ≤ R) (h : (fkey .f64 x - fkey .f64 y).natAbs ≤ pw (R + 51)) : KSum .sub x y (fkey .f64 x - fkey .f64 y) R := by
  obtain ⟨s, m, e, rx, he⟩ := hx
  obtain ⟨t, n, j, ry, hj⟩ := hy
  rw [key_of rx, key_of ry, Int.sub_eq_add_neg, ← signed_not] at h ⊢
  obtain ⟨d, sg, r, hd, hn, hw, a1, a2, a3, a4⟩ := gsum R he hj h1 h
  obtain ⟨b1, b2, b3⟩ := det0 (op := .sub) (k := .f64) (x := x) (y := y) (d := d) (by simp [floatBits, FloatKind.format, Format.sub, rx, ry, hd, Datum.opposite]) hn
  exact ⟨b1, b2, sg, r, by rw [b3]; exact hw, a1, a2, a3, a4⟩
theorem KSum.fr {op : BinOp} {x y R : Nat} {K : Int} (h : KSum op x y K R) (hK : 0 ≤ K) : Fr (R * 4503599627370496) (fop op .f64 x y) := by
  obtain ⟨sg, r, a, b, c, _, d⟩ := h.wd
  refine ⟨sg, r, a, b, fun hs => ?_⟩
  rcases Int.lt_or_eq_of_le hK with h' | h'
  · rw [c h'] at hs; cases hs
  · exact d h'.symm
theorem Fr.weak {R R' f : Nat} (h : Fr R f) (hR : R ≤ R') : Fr R' f := by
  obtain ⟨s, r, a, b, c⟩ := h
  exact ⟨s, r, a, Nat.le_trans b hR, c⟩
theorem rval_pow (a : Nat) : rval double ((a + 1) * 4503599627370496) = 4503599627370496 * 2 ^ a := by
  have := rval_q double (r := (a + 1) * 4503599627370496) (q := a) (t := 0) (by rw [bin64]; omega) (by rw [bin64]; omega)
  rw [this, bin64, Nat.add_zero]
theorem p52 : (4503599627370496 : Nat) = 2 ^ 52 := by decide
theorem rval_pow' (a : Nat) : rval double ((a + 1) * 4503599627370496) = pw (a + 52) := by rw [rval_pow, p52, ← Nat.pow_add, Nat.add_comm]; rfl
theorem rval0 : rval double 0 = 0 := by decide +kernel
theorem Fr.key {R f : Nat} (h : Fr R f) (hR : R < 2047 * 4503599627370496) : Fin64 f ∧ 0 ≤ fkey .f64 f ∧ fkey .f64 f ≤ (rval double R : Int) := by
  obtain ⟨s, r, rfl, hr, hs⟩ := h
  have hle := rval_le (f := double) hr
  refine ⟨fin_word s (by omega), ?_⟩
  rw [key_word s (by omega)]
  cases s
  · simp only [Bool.false_eq_true, if_false]
    generalize rval double r = u at *
    generalize rval double R = v at *
    omega
  · simp only [if_true]
    rw [hs rfl, rval0]
    generalize rval double R = v at *
    omega

theorem zero_cut (neg : Bool) (n drop : Nat) : Toward.zero.cut neg n drop = n / 2 ^ drop := by
  unfold Toward.cut
  simp only [Bool.toNat_false, Nat.add_zero, Nat.shiftLeft_eq, Nat.one_mul]
  by_cases hm : drop ≤ n.log2 + 2
  · rw [Nat.min_eq_left hm]
  · rw [Nat.min_eq_right (by omega)]
    have h1 : n < 2 ^ (n.log2 + 1) := Nat.lt_log2_self
    have h2 : n < 2 ^ (n.log2 + 2) := Nat.lt_trans h1 (Nat.pow_lt_pow_right (by decide) (by omega))
    have h3 : n < 2 ^ drop := Nat.lt_trans h2 (Nat.pow_lt_pow_right (by decide) (by omega))
    rw [Nat.div_eq_of_lt h2, Nat.div_eq_of_lt h3]
/-- The whole part towards nothing, and its own key. -/
theorem trunc_key {s : Bool} {m : Nat} {e : Int} {x : Nat} (hx : double.read x = .number s m e) (he : -1074 ≤ e) :
    ∃ K : Nat, (double.read x).toInt .zero = some (if s then -(K : Int) else (K : Int)) ∧ K * pw 1074 ≤ m <<< (e + 1074).toNat ∧ m <<< (e + 1074).toNat < (K + 1) * pw 1074 := by
  refine ⟨(m <<< e.toNat) / 2 ^ (-e).toNat, ?_, ?_⟩
  · rw [hx]
    unfold Datum.toInt Datum.integral
    simp only [zero_cut]
    unfold signed
    simp only [Nat.shiftLeft_zero]
  · rcases Int.le_total 0 e with h | h
    · have e1 : (-e).toNat = 0 := by omega
      rw [e1, Nat.pow_zero, Nat.div_one, Nat.shiftLeft_eq, Nat.shiftLeft_eq, show (e + 1074).toNat = e.toNat + 1074 by omega, Nat.pow_add, ← Nat.mul_assoc, ← pw_eq 1074]
      have hp : 0 < pw 1074 := pw_pos _
      generalize m * 2 ^ e.toNat = u
      generalize pw 1074 = P at *
      rw [Nat.add_mul]
      omega
    · have e1 : e.toNat = 0 := by omega
      rw [e1, Nat.shiftLeft_zero, Nat.shiftLeft_eq]
      have hs : pw 1074 = 2 ^ (-e).toNat * 2 ^ (e + 1074).toNat := by unfold pw; rw [← Nat.pow_add]; congr 1; omega
      rw [hs]
      have hd := Nat.div_add_mod m (2 ^ (-e).toNat)
      have hm := Nat.mod_lt m (Nat.two_pow_pos (-e).toNat)
      have hp : 0 < 2 ^ (e + 1074).toNat := Nat.two_pow_pos _
      rw [← Nat.mul_assoc, ← Nat.mul_assoc]
      constructor
      · exact Nat.mul_le_mul_right _ (Nat.div_mul_le_self _ _)
      · refine Nat.mul_lt_mul_of_pos_right ?_ hp
        rw [Nat.add_mul, Nat.mul_comm (m / _)]
        omega
theorem ofInt_key {n : Int} (h : n.natAbs < 4503599627370496) : Fin64 (floatOfInt .f64 n) ∧ fkey .f64 (floatOfInt .f64 n) = n * ((pw 1074 : Nat) : Int) := by
  have hw : floatOfInt .f64 n = double.nearest (decide (n < 0)) n.natAbs 0 := rfl
  by_cases h0 : n.natAbs = 0
  · have hn : n = 0 := by omega
    subst hn
    have : floatOfInt .f64 0 = double.word false 0 := by decide +kernel
    rw [this]
    refine ⟨fin_word _ (by omega), ?_⟩
    rw [key_word _ (by omega), rval0]
    simp
  · have hL : n.natAbs.log2 < 52 := (Nat.log2_lt h0).2 (by rw [← p52]; exact h)
    have e5 : double.fractionBits = 52 := rfl
    obtain ⟨r, a, b, c⟩ := nearest_exact double (decide (n < 0)) (m := n.natAbs) (e := 0) h0 (by rw [e5]; omega) (by rw [e5, lp64]; omega) (by rw [e5, lp64, bin64, inf64]; omega)
    rw [hw, a]
    rw [inf64] at b
    refine ⟨fin_word _ b, ?_⟩
    rw [key_word _ b, c, e5, lp64, ← Nat.shiftLeft_add, Nat.shiftLeft_eq, show (52 - n.natAbs.log2 + ((0 : Int) + (n.natAbs.log2 : Int) - ((52 : Nat) : Int) - -1074).toNat) = 1074 by omega, ← pw_eq 1074]
    generalize pw 1074 = P
    push_cast
    by_cases hn : n < 0
    · rw [decide_eq_true hn, if_pos rfl, show (n.natAbs : Int) = -n by omega, Int.neg_mul, Int.neg_neg]
    · rw [decide_eq_false hn, if_neg (by decide), show (n.natAbs : Int) = n by omega]
theorem cell_pow : pw 1074 = pw (1023 + 51) := rfl
/-- The first half of the fraction: x less its whole part. -/
structure Frac (x : Nat) (n : Int) : Prop where
  int : (double.read x).toInt .zero = some n
  lo : -4503599627370496 ≤ n
  hi : n ≤ 4503599627370496
  res : ∀ w, fres .sub .f64 x (floatOfInt .f64 n) w = fop .sub .f64 x (floatOfInt .f64 n)
  dr : fdr .sub .f64 x (floatOfInt .f64 n) = 0
  wd : ∃ sg r, fop .sub .f64 x (floatOfInt .f64 n) = double.word sg r ∧ r ≤ 1023 * 4503599627370496
theorem frac_of {s : Bool} {r : Nat} (hr : r < 1075 * 4503599627370496) : ∃ n, Frac (double.word s r) n := by
  obtain ⟨m, e, hx, he, hv, _⟩ := read_rung double s (r := r) (by rw [inf64]; omega) (infRung_lt' .f64)
  rw [lp64] at he hv
  rw [show e - -1074 = e + 1074 by omega] at hv
  obtain ⟨K, h1, h2, h3⟩ := trunc_key hx he
  have hlt : rval double r < pw (1074 + 52) := by
    have := rval_lt (f := double) hr
    rw [rval_pow' 1074] at this
    exact this
  have hfx := fin_word s (r := r) (by omega)
  have hkx := key_of hx
  have hP : 0 < pw 1074 := pw_pos _
  have hK : K < 4503599627370496 := by
    rw [hv] at h2
    rw [Nat.add_comm, pw_add 52 1074, pw_eq 52] at hlt
    have := Nat.lt_of_mul_lt_mul_right (Nat.lt_of_le_of_lt h2 hlt)
    rw [p52]; exact this
  have hn : (if s then -(K : Int) else (K : Int)).natAbs = K := by cases s <;> simp
  obtain ⟨f2, k2⟩ := ofInt_key (n := if s then -(K : Int) else (K : Int)) (by rw [hn]; exact hK)
  have hd : (fkey .f64 (double.word s r) - fkey .f64 (floatOfInt .f64 (if s then -(K : Int) else (K : Int)))).natAbs ≤ pw (1023 + 51) := by
    rw [hkx, k2, ← cell_pow]
    unfold signed
    generalize m <<< (e + 1074).toNat = u at *
    generalize pw 1074 = P at *
    have h4 : ((K * P : Nat) : Int) = (K : Int) * (P : Int) := by push_cast; rfl
    rw [Nat.add_mul] at h3
    generalize hKP : K * P = q at *
    cases s
    · simp only [Bool.false_eq_true, if_false]
      rw [← h4]; omega
    · simp only [if_true]
      rw [Int.neg_mul, ← h4]; omega
  have S := sub_key 1023 hfx f2 (by decide) hd
  obtain ⟨sg, r', a, b, _⟩ := S.wd
  exact ⟨_, h1, by cases s <;> simp <;> omega, by cases s <;> simp <;> omega, S.res, S.dr, sg, r', a, b⟩
def kO : Nat := 4607182418800017408
theorem kO_word : kO = double.word false ((1022 + 1) * 4503599627370496) := by decide +kernel
theorem kO_key : Fin64 kO ∧ fkey .f64 kO = ((pw 1074 : Nat) : Int) := by
  rw [kO_word]
  refine ⟨fin_word _ (by omega), ?_⟩
  rw [key_word _ (by omega), rval_pow' 1022]
  rfl
theorem kQ_key : Fin64 kQ ∧ fkey .f64 kQ = ((pw 1072 : Nat) : Int) := by
  have h : kQ = double.word false ((1020 + 1) * 4503599627370496) := kQ_word
  rw [h]
  refine ⟨fin_word _ (by omega), ?_⟩
  rw [key_word _ (by omega), rval_pow' 1020]
  rfl
theorem rvalR4 : rval double (1023 * 4503599627370496) = pw 1074 := rval_pow' 1022
/-- One more, where the fraction is below nothing. -/
theorem frac_up {sg : Bool} {r : Nat} (hr : r ≤ 1023 * 4503599627370496) (hn : fkey .f64 (double.word sg r) < 0) :
    Fr (1023 * 4503599627370496) (fop .add .f64 (double.word sg r) kO) ∧ (∀ w, fres .add .f64 (double.word sg r) kO w = fop .add .f64 (double.word sg r) kO) ∧ fdr .add .f64 (double.word sg r) kO = 0 := by
  have hk := key_word sg (r := r) (by omega)
  have hle := rval_le (f := double) hr
  rw [rvalR4] at hle
  obtain ⟨f1, k1⟩ := kO_key
  have hb : -((pw 1074 : Nat) : Int) ≤ fkey .f64 (double.word sg r) := by
    rw [hk]
    generalize rval double r = u at *
    generalize pw 1074 = P at *
    cases sg <;> simp <;> omega
  have S := add_key 1023 (fin_word sg (r := r) (by omega)) f1 (by decide) (by
    rw [k1, ← cell_pow]
    generalize fkey .f64 (double.word sg r) = k at *
    generalize pw 1074 = P at *
    omega)
  refine ⟨S.fr ?_, S.res, S.dr⟩
  rw [k1]
  generalize fkey .f64 (double.word sg r) = k at *
  generalize pw 1074 = P at *
  omega
theorem frac_stay {sg : Bool} {r : Nat} (hr : r ≤ 1023 * 4503599627370496) (hn : 0 ≤ fkey .f64 (double.word sg r)) : Fr (1023 * 4503599627370496) (double.word sg r) := by
  refine ⟨sg, r, rfl, hr, fun hs => ?_⟩
  subst hs
  rw [key_word true (r := r) (by omega)] at hn
  simp only [if_true] at hn
  apply rval_inj (f := double)
  rw [rval0]
  generalize rval double r = u at *
  omega
/-- What is left to a quarter. -/
theorem quarter_left {f : Nat} (h : Fr (1023 * 4503599627370496) f) (hn : ¬ fkey .f64 kQ ≤ fkey .f64 f) :
    Fr (1021 * 4503599627370496) (fop .sub .f64 kQ f) ∧ (∀ w, fres .sub .f64 kQ f w = fop .sub .f64 kQ f) ∧ fdr .sub .f64 kQ f = 0 := by
  obtain ⟨ff, f0, _⟩ := h.key (by omega)
  obtain ⟨f1, k1⟩ := kQ_key
  have S := sub_key 1021 f1 ff (by decide) (by
    rw [k1] at hn ⊢
    rw [show (1021 + 51 : Nat) = 1072 from rfl]
    generalize fkey .f64 f = k at *
    generalize pw 1072 = P at *
    omega)
  refine ⟨S.fr ?_, S.res, S.dr⟩
  rw [k1] at hn ⊢
  generalize fkey .f64 f = k at *
  generalize pw 1072 = P at *
  omega
theorem Fr.sm {R f R' : Nat} (h : Fr R f) (hR : R ≤ R' * 4503599627370496) (h1 : 1 ≤ R') (h2 : R' ≤ 2046) : Sm .f64 f R' := by
  obtain ⟨s, r, a, b, _⟩ := h
  exact Up.sm ⟨s, r, a, Nat.le_trans b hR⟩ h1 (by show R' ≤ 2 * 1023; omega)
end Go.Proofs.Ytamgekijihpgkaa
