/- Spectra: halves, what is added up, how great it can be. Plain but for the library's small functions. -/
import Derived.Test.YtamgekijihpgkaaEw
import Derived.Test.YtamgekijihpgkaaDraw
namespace Go.Proofs.Ytamgekijihpgkaa
open Go.RowKit Ieee

theorem cut_pow {neg : Bool} {m a d : Nat} (hm : m ≠ 0) (h : d ≤ a) : Toward.even.cut neg (m * 2 ^ a) d = m * 2 ^ (a - d) := by
  have hp : 0 < 2 ^ d := Nat.two_pow_pos _
  have he : m * 2 ^ a = m * 2 ^ (a - d) * 2 ^ d := by rw [Nat.mul_assoc, ← Nat.pow_add]; congr 2; omega
  have hl : d ≤ (m * 2 ^ a).log2 + 2 := by
    have h1 : 2 ^ a ≤ m * 2 ^ a := Nat.le_mul_of_pos_left _ (by omega)
    have h2 : m * 2 ^ a ≠ 0 := by have := Nat.two_pow_pos a; omega
    have := (Nat.le_log2 h2).2 h1
    omega
  unfold Toward.cut
  simp only [Nat.shiftLeft_eq, Nat.one_mul]
  rw [Nat.min_eq_left hl, he, Nat.mul_div_cancel _ hp, Nat.mul_mod_left]
  have h5 : (2 ^ d == 2 * 0) = false := by simp
  have h6 : ¬ 2 ^ d < 2 * 0 := by omega
  rw [h5, decide_eq_false h6]
  simp
theorem nearest_scale {neg : Bool} {m a : Nat} {e : Int} (hm : m ≠ 0) (hL : m.log2 ≤ 52) (hlo : -1074 ≤ e + a) : double.nearest neg (m * 2 ^ a) e = double.nearest neg m (e + a) := by
  have hma : m * 2 ^ a ≠ 0 := Nat.mul_ne_zero hm (Nat.ne_of_gt (Nat.two_pow_pos _))
  have hlog : (m * 2 ^ a).log2 = m.log2 + a := by
    apply Nat.le_antisymm
    · have := (Nat.log2_lt hma (k := m.log2 + a + 1)).2 (by
        have : m < 2 ^ (m.log2 + 1) := Nat.lt_log2_self
        have h2 : 2 ^ (m.log2 + a + 1) = 2 ^ (m.log2 + 1) * 2 ^ a := by rw [← Nat.pow_add]; congr 1; omega
        rw [h2]
        exact Nat.mul_lt_mul_of_pos_right this (Nat.two_pow_pos _))
      omega
    · exact (Nat.le_log2 hma).2 (by rw [Nat.pow_add]; exact Nat.mul_le_mul_right _ (Nat.log2_self_le hm))
  unfold Format.nearest
  rw [if_neg hma, if_neg hm, hlog]
  have hfb : double.fractionBits = 52 := rfl
  rw [hfb, lp64]
  have e1 : max (e + ((m.log2 + a : Nat) : Int) - ((52 : Nat) : Int)) (-1074) = max (e + (a : Int) + (m.log2 : Int) - ((52 : Nat) : Int)) (-1074) := by congr 1; omega
  rw [e1]
  obtain ⟨L, hLd⟩ : ∃ L : Int, L = max (e + (a : Int) + (m.log2 : Int) - ((52 : Nat) : Int)) (-1074) := ⟨_, rfl⟩
  rw [← hLd]
  have hle : L ≤ e + a := by omega
  have hc : Toward.even.cut neg ((m * 2 ^ a) <<< (e - L).toNat) (L - e).toNat = Toward.even.cut neg (m <<< (e + a - L).toNat) (L - (e + a)).toNat := by
    rw [show (L - (e + a)).toNat = 0 by omega, cut_zero, Nat.shiftLeft_eq, Nat.shiftLeft_eq]
    rcases Int.le_total L e with h | h
    · rw [show (L - e).toNat = 0 by omega, cut_zero, Nat.mul_assoc, ← Nat.pow_add]
      congr 2
      omega
    · rw [show (e - L).toNat = 0 by omega, Nat.pow_zero, Nat.mul_one, cut_pow hm (by omega)]
      congr 2
      omega
  dsimp only
  rw [hc]
theorem k2_read : double.read 4611686018427387904 = .number false (2 ^ 52) (-51) ∧ double.read 4602678819172646912 = .number false (2 ^ 52) (-53) := by decide +kernel
theorem half_eq {x : Nat} {s : Bool} {m : Nat} {e : Int} (hx : double.read x = .number s m e) (hL : m.log2 ≤ 52) (he : m ≠ 0 → -1073 ≤ e) : fop .quo .f64 x 4611686018427387904 = fop .mul .f64 4602678819172646912 x := by
  obtain ⟨r1, r2⟩ := k2_read
  have hl2 : (2 ^ 52 : Nat).log2 = 52 := by decide
  have hne : ¬ (2 ^ 52 : Nat) = 0 := by decide
  obtain ⟨_, _, q3⟩ := det0 (op := .mul) (k := .f64) (x := 4602678819172646912) (y := x) (d := .number (false ^^ s) (2 ^ 52 * m) (-53 + e)) (by simp only [floatBits, FloatKind.format, Format.mul, r2, hx, Datum.product]; rfl) rfl
  have hdiv : m <<< (54 + 52 - m.log2) / 2 ^ 52 = m * 2 ^ (54 - m.log2) ∧ m <<< (54 + 52 - m.log2) % 2 ^ 52 = 0 := by
    have h1 : m <<< (54 + 52 - m.log2) = m * 2 ^ (54 - m.log2) * 2 ^ 52 := by rw [Nat.shiftLeft_eq, Nat.mul_assoc, ← Nat.pow_add]; congr 2; omega
    rw [h1]
    exact ⟨Nat.mul_div_cancel _ (Nat.two_pow_pos _), Nat.mul_mod_left _ _⟩
  obtain ⟨_, _, p3⟩ := det0 (op := .quo) (k := .f64) (x := x) (y := 4611686018427387904) (d := .number (s ^^ false) (2 * (m * 2 ^ (54 - m.log2))) (e - -51 - ((54 + 52 - m.log2 : Nat) : Int) - 1)) (by
    have hfb : double.fractionBits = 52 := rfl
    simp only [floatBits, FloatKind.format, Format.div, r1, hx, Datum.quotient, hfb, hl2]
    rw [if_neg hne]
    simp only [Option.map_some]
    rw [hdiv.1, hdiv.2]
    simp) rfl
  rw [p3, q3]
  show double.nearest _ _ _ = double.nearest _ _ _
  rw [Bool.xor_false, Bool.false_xor]
  by_cases hm : m = 0
  · subst hm
    simp [near0]
  · have e1 : 2 * (m * 2 ^ (54 - m.log2)) = m * 2 ^ (55 - m.log2) := by
      rw [show 55 - m.log2 = (54 - m.log2) + 1 by omega, Nat.pow_succ, ← Nat.mul_assoc m, Nat.mul_comm 2]
    have h0 := he hm
    rw [e1, nearest_scale hm hL (by omega), Nat.mul_comm (2 ^ 52) m, nearest_scale hm hL (by omega)]
    congr 1
    omega
theorem Sm.read32 {x R : Nat} (h : Sm .f32 x R) : ∃ s m e, single.read x = .number s m e := by
  obtain ⟨s, m, e, a, _⟩ := h
  exact ⟨s, m, e, a⟩
theorem half_wide {x R : Nat} (h : Sm .f32 x R) : fop .quo .f64 (wd x) 4611686018427387904 = fop .mul .f64 4602678819172646912 (wd x) := by
  obtain ⟨s, m, e, a⟩ := h.read32
  obtain ⟨hm, he, _⟩ := single_bounds a
  have hw : wd x = double.write (.number s m e) := by unfold wd; rw [a]
  rw [hw]
  rcases read_widen a with ⟨hm0, hd⟩ | ⟨hm0, hl, hd⟩
  · exact half_eq hd (by decide) (fun h => absurd rfl h)
  · refine half_eq hd ?_ (fun _ => by omega)
    have hs : m <<< (52 - m.log2) ≠ 0 := by rw [Nat.shiftLeft_eq]; exact Nat.mul_ne_zero hm0 (Nat.ne_of_gt (Nat.two_pow_pos _))
    have h1 : m < 2 ^ (m.log2 + 1) := Nat.lt_log2_self
    have : m <<< (52 - m.log2) < 2 ^ 53 := by
      rw [Nat.shiftLeft_eq]
      have h2 : 2 ^ 53 = 2 ^ (m.log2 + 1) * 2 ^ (52 - m.log2) := by rw [← Nat.pow_add]; congr 1; omega
      rw [h2]
      exact Nat.mul_lt_mul_of_pos_right h1 (Nat.two_pow_pos _)
    have := (Nat.log2_lt hs).2 this
    omega

/-- A 64-bit number as a 32-bit one, by how great it is. -/
theorem n32_up {b : Nat} (R : Nat) (h : Up .f64 b (R + 896)) (h1 : 1 ≤ R) (h2 : R ≤ 253) : Up .f32 (n32 (cn .f64 b)) R := by
  have b64 : bias .f64 = 1023 := rfl
  have b32 : bias .f32 = 127 := rfl
  have hn := (upSm h (by omega) (by omega)).num
  obtain ⟨s, m, e, hr, he, hm, _⟩ := h.read (by omega) (by rw [b64]; omega)
  rw [b64] at he hm
  rw [cn_of_not hn]
  unfold n32
  rw [hn]
  simp only [Bool.false_eq_true, if_false]
  rw [show double.read b = .number s m e from hr]
  obtain ⟨r, hr', hb, _⟩ := nearest_up .f32 s (m := m) (e := e) (R := R) (by omega) rfl (by rw [b32]; omega) (by
    rw [b32]
    have : (R : Int) - ((127 : Nat) : Int) - e = ((R + 896 : Nat) : Int) - ((1023 : Nat) : Int) - e := by omega
    rw [this]; exact hm)
  exact ⟨s, r, hr', hb⟩
theorem ph3_up {q c s : Nat} (hc : Up .f64 c 1117) (hs : Up .f64 s 1117) (hc0 : Up .f64 (fop .sub .f64 0 c) 1117) (hs0 : Up .f64 (fop .sub .f64 0 s) 1117) : Up .f32 (ph3 q c s).1 221 := by
  unfold ph3
  split
  · exact n32_up 221 hs0 (by decide) (by decide)
  split
  · exact n32_up 221 hc0 (by decide) (by decide)
  split
  · exact n32_up 221 hs (by decide) (by decide)
  · exact n32_up 221 hc (by decide) (by decide)
theorem sin_ups {x : Nat} (h : Fr (1023 * 4503599627370496) x) : Up .f64 (sinF x) 1117 ∧ Up .f64 (fop .sub .f64 0 (sinF x)) 1117 := by
  obtain ⟨s, r, hx, hr⟩ := h.word
  have hw : FrW x := by rw [hx]; exact frW hr
  have hu := sinF_up (sinW hw.fr)
  have D := det_sub (R := 1116) (Sm.weak (upSm up_0 (by omega) (by omega)) (by omega)) (upSm hu (by omega) (by omega)) (by omega)
  exact ⟨hu.weak (by omega), D.up⟩
theorem qrt_end {f0 : Nat} (h : Fr (1023 * 4503599627370496) f0) : ∃ j f, qrt 4 f0 = (j, f) ∧ Fr (1023 * 4503599627370496) f ∧ Fr (1023 * 4503599627370496) (fop .sub .f64 kQ f) := by
  have go : ∀ n j f, n + j = 4 → Qv f0 f j → ∃ j f, qrt 4 f0 = (j, f) ∧ Fr (1023 * 4503599627370496) f ∧ Fr (1023 * 4503599627370496) (fop .sub .f64 kQ f) := by
    intro n
    induction n with
    | zero =>
      intro j f hj Q
      cases hg : geC f kQ
      · obtain ⟨a, b, c, _⟩ := Q.stop hg
        exact ⟨_, _, a, b, c⟩
      · obtain ⟨h4, _⟩ := Q.go hg
        omega
    | succ n ih =>
      intro j f hj Q
      cases hg : geC f kQ
      · obtain ⟨a, b, c, _⟩ := Q.stop hg
        exact ⟨_, _, a, b, c⟩
      · obtain ⟨_, _, _, Q'⟩ := Q.go hg
        exact ih (j + 1) _ (by omega) Q'
  exact go 4 0 f0 rfl (Qv.start h)
theorem phV_up {x : Nat} (h : Up .f64 x 1100) : Up .f32 (phV x).1 221 := by
  obtain ⟨s, r, hx, hr⟩ := h
  have hr' : r ≤ 1100 * 4503599627370496 := hr
  have hx' : x = double.word s r := hx
  rcases Nat.lt_or_ge r (1075 * 4503599627370496) with hb | hb
  · rw [phV_small hx' hb]
    have hw : FrW x := by rw [hx']; exact frW hb
    obtain ⟨j, f, e, f1, f2⟩ := qrt_end hw.fr
    unfold ph2
    rw [e]
    obtain ⟨a1, a2⟩ := sin_ups f1
    obtain ⟨b1, b2⟩ := sin_ups f2
    exact ph3_up b1 a1 b2 a2
  · rw [phV_big hx' (by omega) hb]
    exact ⟨false, 1065353216, rfl, by show 1065353216 ≤ 221 * 8388608; decide⟩
/-- What is added up: the number of the k-th wave at a place. -/
def sd (seed : Int) : Nat → Int
  | 0 => seed
  | k + 1 => nextI (sd seed k)
theorem sd_bd {seed : Int} (h0 : 0 ≤ seed) (h1 : seed ≤ 2147483647) (k : Nat) : 0 ≤ sd seed k ∧ sd seed k ≤ 2147483647 := by
  cases k with
  | zero => exact ⟨h0, h1⟩
  | succ k => exact nextI_bd _
def lg (k : Nat) : Nat := logF (cn .f32 (floatOfInt .f32 (k : Int)))
def wx (slope k : Nat) : Nat := Op.negFloat .f32 (fop .mul .f32 (fop .mul .f32 1056964608 slope) (lg k))
def wv (slope k : Nat) : Nat := exN (wx slope k)
def turnF (s : Int) (ik count : Int) : Nat := fop .add .f64 (fop .mul .f64 4602678819172646912 (wd (drawnF s))) (fop .quo .f64 (floatOfInt .f64 ik) (floatOfInt .f64 count))
def oF (slope : Nat) (seed count : Int) : Nat → Nat → Nat
  | 0, _ => 0
  | k + 1, i => fop .add .f32 (oF slope seed count k i) (fop .mul .f32 (wv slope (k + 1)) (phV (turnF (sd seed (k + 1)) ((i : Int) * ((k + 1 : Nat) : Int)) count)).1)
theorem lg_tab : ∀ n : Nat, n < 32 → 1 ≤ n → ford .f32 (cn .f32 (floatOfInt .f32 (n : Int))) (cn .f32 0) = some .gt ∧ finB (cn .f32 (floatOfInt .f32 (n : Int))) = true ∧ lg n ≤ 130 * 8388608 := by decide +kernel
theorem lg_sg {n : Nat} (h : n < 32) (h1 : 1 ≤ n) : Sg .f32 (lg n) 130 false := by
  obtain ⟨_, _, a⟩ := lg_tab n h h1
  have e : lg n = FloatKind.f32.format.word false (lg n) := (word_f _ _).symm
  rw [e]
  exact sg_word (k := .f32) a (by decide) (by decide) (fun h => absurd rfl h)
theorem half32 : Sg .f32 1056964608 126 false := by
  have e : (1056964608 : Nat) = FloatKind.f32.format.word false 1056964608 := rfl
  rw [e]
  exact sg_word (k := .f32) (by decide) (by decide) (by decide) (fun h => absurd rfl h)
/-- What is known of the weights. -/
structure Wgt (slope k : Nat) : Prop where
  m1 : Det .mul .f32 1056964608 slope 129
  m2 : Det .mul .f32 (fop .mul .f32 1056964608 slope) (lg k) 132
  ex : ExF (wx slope k)
  up : Up .f32 (wv slope k) 127
theorem wgt {slope k : Nat} (hs : Sg .f32 slope 130 false) (h : k < 32) (h1 : 1 ≤ k) : Wgt slope k := by
  have hl := lg_sg h h1
  have M1 := det_mul (R := 129) half32.sm hs.sm (by rw [bias32]) (by decide)
  have S1 := (sg_mul (R := 129) half32 hs (by rw [bias32]) (by decide) (by decide)).sg
  have M2 := det_mul (R := 132) S1.sm hl.sm (by rw [bias32]) (by decide)
  have S2 := (sg_mul (R := 132) S1 hl (by rw [bias32]) (by decide) (by decide)).sg
  have S3 := sg_neg S2 M2.up (by decide) (by decide)
  have E : ExF (wx slope k) := exF S3
  have hp := (ex_step E.ts 12 (by decide)).1
  have hq := (sq_step hp 8).1
  exact ⟨M1, M2, E, n32_up 127 hq.up (by decide) (by decide)⟩
theorem drawn_up {s : Int} (h0 : 0 ≤ s) (h1 : s ≤ 2147483647) : Up .f32 (drawnF s) 127 := by
  have b32 : bias .f32 = 127 := rfl
  have hn : ((s / 65536 - 16384).natAbs) ≤ 16384 := by omega
  have hw : floatOfInt .f32 (s / 65536 - 16384) = single.nearest (decide (s / 65536 - 16384 < 0)) (s / 65536 - 16384).natAbs 0 := rfl
  obtain ⟨r, hr, hb, _⟩ := nearest_up .f32 (decide (s / 65536 - 16384 < 0)) (m := (s / 65536 - 16384).natAbs) (e := 0) (R := 141) (by decide) rfl (by decide) (by
    have : 2 ^ ((((141 : Nat) : Int) - bias .f32) - 0).toNat = 16384 := by decide
    rw [this]; exact hn)
  have hu : Up .f32 (floatOfInt .f32 (s / 65536 - 16384)) 141 := ⟨_, r, by rw [hw]; exact hr, hb⟩
  have hnn := (hu.sm (by decide) (by decide)).num
  have c1 : cn .f32 1182793728 = 1182793728 := by decide +kernel
  unfold drawnF
  rw [cn_of_not hnn, c1]
  exact up_quo hu ⟨false, 1182793728, rfl, by show 141 * 8388608 ≤ 1182793728; decide, by decide⟩ (by decide) (show 1 ≤ 141 by decide) (by decide) (by decide) (by decide)
theorem wd_up {x R : Nat} (h : Up .f32 x R) (h1 : 1 ≤ R) (h9 : R ≤ 254) : Up .f64 (wd x) (R + 896) := by
  obtain ⟨s, m, e, a, b, c, _⟩ := h.read h1 (by show R ≤ 2 * 127; omega)
  have b32 : bias .f32 = 127 := rfl
  rw [b32] at b c
  have hw : wd x = double.nearest s m e := by
    unfold wd
    rw [show single.read x = .number s m e from a]
    rfl
  obtain ⟨r, hr, hb⟩ := up64 (neg := s) (m := m) (e := e) (R + 896) (by omega) (by omega) (by
    have : (((R + 896 : Nat) : Int) - 1023 - e) = (R : Int) - ((127 : Nat) : Int) - e := by omega
    rw [this]; exact c)
  exact ⟨s, r, by rw [hw]; exact hr, hb⟩
theorem int_up {n : Int} (h0 : 0 ≤ n) (h1 : n ≤ 2048) : Up .f64 (floatOfInt .f64 n) 1034 := by
  have hw : floatOfInt .f64 n = double.nearest (decide (n < 0)) n.natAbs 0 := rfl
  obtain ⟨r, hr, hb⟩ := up64 (neg := decide (n < 0)) (m := n.natAbs) (e := 0) 1034 (by decide) (by decide) (by
    have : 2 ^ ((((1034 : Nat) : Int) - 1023) - 0).toNat = 2048 := by decide
    rw [this]; omega)
  exact ⟨_, r, by rw [hw]; exact hr, hb⟩
theorem cnt_tab : ∀ n : Nat, n < 65 → 2 ≤ n → 1023 * 4503599627370496 ≤ floatOfInt .f64 (n : Int) ∧ floatOfInt .f64 (n : Int) ≤ 1030 * 4503599627370496 := by decide +kernel
theorem turn_up {s : Int} {ik : Int} {count : Nat} (h0 : 0 ≤ s) (h1 : s ≤ 2147483647) (i0 : 0 ≤ ik) (i1 : ik ≤ 2048) (c0 : 2 ≤ count) (c1 : count < 65) : Up .f64 (turnF s ik count) 1035 := by
  have hd := wd_up (drawn_up h0 h1) (by decide) (by decide)
  have hm := up_mul (R := 1022) up_kH hd (by decide) (by decide) (by decide) (by decide) (by rw [bias64]) (by decide)
  obtain ⟨a, b⟩ := cnt_tab count c1 c0
  have hq := up_quo (R := 1034) (int_up i0 i1) ⟨false, _, (word_f _ _).symm, a, by
    have hI : FloatKind.f64.format.infRung = 2047 * 4503599627370496 := inf64
    rw [hI]
    generalize floatOfInt .f64 (count : Int) = d at *
    omega⟩ (by decide) (show 1 ≤ 1023 by decide) (by decide) (by rw [bias64]) (by decide)
  exact up_add (R := 1034) (hm.weak (by decide)) hq (by decide) (by decide)
theorem oF_succ (slope : Nat) (seed count : Int) (k i : Nat) : oF slope seed count (k + 1) i = fop .add .f32 (oF slope seed count k i) (fop .mul .f32 (wv slope (k + 1)) (phV (turnF (sd seed (k + 1)) ((i : Int) * ((k + 1 : Nat) : Int)) count)).1) := rfl
theorem oF_up {slope : Nat} {seed : Int} {count : Nat} (hs : Sg .f32 slope 130 false) (h0 : 0 ≤ seed) (h1 : seed ≤ 2147483647) (c0 : 2 ≤ count) (c1 : count < 65) : ∀ k, k ≤ 31 → ∀ i, i < count → Up .f32 (oF slope seed count k i) (221 + k) := by
  intro k
  induction k with
  | zero => exact fun _ i _ => ⟨false, 0, rfl, Nat.zero_le _⟩
  | succ k ih =>
    intro hk i hi
    have hw := (wgt (k := k + 1) hs (by omega) (by omega)).up
    obtain ⟨s0, s1⟩ := sd_bd h0 h1 (k + 1)
    have hik : (i : Int) * ((k + 1 : Nat) : Int) ≤ 64 * 32 := Int.mul_le_mul (by omega) (by omega) (by omega) (by omega)
    have hp := phV_up ((turn_up s0 s1 (Int.mul_nonneg (by omega) (by omega)) (Int.le_trans hik (by decide)) c0 c1).weak (show 1035 ≤ 1100 by decide))
    have hm := up_mul (R := 221) hw hp (by decide) (by decide) (by decide) (by decide) (by rw [bias32]) (by decide)
    rw [oF_succ]
    exact up_add (R := 221 + k) (ih (by omega) i hi) (hm.weak (by omega)) (by omega) (by show 221 + k ≤ 2 * 127; omega)
end Go.Proofs.Ytamgekijihpgkaa
