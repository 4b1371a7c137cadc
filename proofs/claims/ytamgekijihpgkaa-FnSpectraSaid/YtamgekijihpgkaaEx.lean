/- Numbers with a known sign; the exponential of numbers that are not above 0. Plain but for the library's small functions. -/
import Derived.Test.YtamgekijihpgkaaPhB
import Derived.Test.YtamgekijihpgkaaFloor
namespace Go.Proofs.Ytamgekijihpgkaa
open Go.RowKit Ieee

/-- A number not too great, of that sign, or nothing. -/
def Sg (k : FloatKind) (b R : Nat) (z : Bool) : Prop := ∃ s m e, k.format.read b = .number s m e ∧ e ≤ (R : Int) - bias k ∧ m ≤ 2 ^ ((R : Int) - bias k - e).toNat ∧ (s ≠ z → m = 0)
theorem Sg.sm {k : FloatKind} {b R : Nat} {z : Bool} (h : Sg k b R z) : Sm k b R := by
  obtain ⟨s, m, e, a, b, c, _⟩ := h
  exact ⟨s, m, e, a, b, c⟩
theorem rval_z (f : Format) : rval f 0 = 0 := by
  unfold rval
  rw [if_pos (binade_pos f)]
theorem sg_word {k : FloatKind} {sg : Bool} {q R : Nat} {z : Bool} (hq : q ≤ R * k.format.binade) (h1 : 1 ≤ R) (h2 : R ≤ 2 * bias k) (hz : sg ≠ z → q = 0) : Sg k (k.format.word sg q) R z := by
  have hI := inf_eq k
  have hlt : q < k.format.infRung := by
    have hB := binade_pos k.format
    have : R * k.format.binade ≤ (2 * bias k) * k.format.binade := Nat.mul_le_mul_right _ h2
    rw [hI, Nat.add_mul]
    omega
  obtain ⟨m, e, a, b, c, d⟩ := read_rung k.format sg hlt (infRung_lt' k)
  obtain ⟨s', m', e', a', b', c', _⟩ := Up.read ⟨sg, q, rfl, hq⟩ h1 h2
  rw [a] at a'
  injection a' with x1 x2 x3
  subst x1; subst x2; subst x3
  refine ⟨sg, m, e, a, b', c', fun h => ?_⟩
  rw [hz h, rval_z, Nat.shiftLeft_eq] at c
  rcases Nat.mul_eq_zero.1 c with h' | h'
  · exact h'
  · exact absurd h' (Nat.ne_of_gt (Nat.two_pow_pos _))
/-- What is known of a result with a sign. -/
structure Dsg (op : BinOp) (k : FloatKind) (x y R : Nat) (z : Bool) : Prop where
  res : ∀ w, fres op k x y w = fop op k x y
  dr : fdr op k x y = 0
  sg : Sg k (fop op k x y) R z
theorem near0 (f : Format) (neg : Bool) (e : Int) : f.nearest neg 0 e = f.word neg 0 := by
  unfold Format.nearest
  rw [if_pos rfl]
theorem sg_mul {k : FloatKind} {x y R1 R2 R : Nat} {a b : Bool} (hx : Sg k x R1 a) (hy : Sg k y R2 b) (hR : R + bias k = R1 + R2) (h0 : 1 ≤ R) (h9 : R ≤ 2 * bias k) : Dsg .mul k x y R (a ^^ b) := by
  obtain ⟨s, m, e, rx, be, bm, za⟩ := hx
  obtain ⟨t, n, j, ry, bj, bn, zb⟩ := hy
  obtain ⟨p1, p2, p3⟩ := det0 (op := .mul) (k := k) (x := x) (y := y) (d := .number (s ^^ t) (m * n) (e + j)) (by simp [floatBits, Format.mul, rx, ry, Datum.product]) rfl
  refine ⟨p1, p2, ?_⟩
  rw [p3]
  show Sg k (k.format.nearest (s ^^ t) (m * n) (e + j)) R (a ^^ b)
  by_cases hM : m * n = 0
  · rw [hM, near0]
    exact sg_word (Nat.zero_le _) h0 h9 (fun _ => rfl)
  · obtain ⟨r, hr, hb, _⟩ := nearest_up k (s ^^ t) (m := m * n) (e := e + j) (E := (R : Int) - bias k) h0 rfl (by omega) (by
      have : 2 ^ ((R : Int) - bias k - (e + j)).toNat = 2 ^ ((R1 : Int) - bias k - e).toNat * 2 ^ ((R2 : Int) - bias k - j).toNat := by rw [← Nat.pow_add]; congr 1 <;> omega
      rw [this]
      exact Nat.mul_le_mul bm bn)
    rw [hr]
    refine sg_word hb h0 h9 (fun h => ?_)
    exfalso
    have hm : m ≠ 0 := fun h => hM (by rw [h, Nat.zero_mul])
    have hn : n ≠ 0 := fun h => hM (by rw [h, Nat.mul_zero])
    have e1 : s = a := Classical.byContradiction fun h => hm (za h)
    have e2 : t = b := Classical.byContradiction fun h => hn (zb h)
    rw [e1, e2] at h
    exact h rfl
theorem word_inj {f : Format} {s t : Bool} {r q : Nat} (hr : r < f.signWeight) (hq : q < f.signWeight) (h : f.word s r = f.word t q) : r = q := by
  have a := rung_word f s hr
  have b := rung_word f t hq
  rw [h, b] at a
  exact a.symm
theorem sg_quo {k : FloatKind} {x y R1 R2 R : Nat} {a : Bool} (hx : Sg k x R1 a) (hu : Up k x R1) (hy : In k y R2 R2) (h1 : 1 ≤ R1) (h2 : 1 ≤ R2) (t1 : R1 ≤ 2 * bias k) (t2 : R2 ≤ 2 * bias k) (hR : R + R2 = R1 + bias k) (h0 : 1 ≤ R) (h9 : R ≤ 2 * bias k) : Dsg .quo k x y R a := by
  obtain ⟨s2, q2, eq2, hq2⟩ := up_quo hu (hy.lo t2) h1 h2 t1 hR h0
  obtain ⟨s, m, e, rx, be, bm, za⟩ := hx
  obtain ⟨n, j, ry, n0, _⟩ := hy.read h2 t2
  have hb : ∃ Q E, floatBits .quo k x y = some (k.format.write (.number s Q E)) ∧ (m = 0 → Q = 0) := by
    refine ⟨2 * (m <<< (k.format.fractionBits + 2 + n.log2 - m.log2) / n) + (m <<< (k.format.fractionBits + 2 + n.log2 - m.log2) % n != 0).toNat, e - j - (k.format.fractionBits + 2 + n.log2 - m.log2 : Nat) - 1, by simp [floatBits, Format.div, rx, ry, Datum.quotient, n0], fun h => ?_⟩
    subst h
    simp
  obtain ⟨Q, E, hQ, hz⟩ := hb
  obtain ⟨p1, p2, p3⟩ := det0 (op := .quo) (k := k) (x := x) (y := y) hQ rfl
  refine ⟨p1, p2, ?_⟩
  have p3' : fop .quo k x y = k.format.nearest s Q E := p3
  obtain ⟨q, hq, eq⟩ := nearest_word k.format s Q E
  have hI := infRung_lt' k
  have hI2 := inf_eq k
  have hB := binade_pos k.format
  have hlt2 : q2 < k.format.signWeight := by
    have : R * k.format.binade ≤ (2 * bias k) * k.format.binade := Nat.mul_le_mul_right _ h9
    rw [Nat.add_mul] at hI2
    omega
  have e3 : q = q2 := word_inj (f := k.format) (s := s) (t := s2) (by omega) hlt2 (by rw [← eq, ← p3', eq2])
  by_cases hm : m = 0
  · rw [p3', hz hm, near0]
    exact sg_word (Nat.zero_le _) h0 h9 (fun _ => rfl)
  · rw [p3', eq, e3]
    refine sg_word hq2 h0 h9 (fun h => ?_)
    exact absurd (za h) hm
/-- From 0 to 1. -/
theorem Fr.sg {f : Nat} (h : Fr (1023 * 4503599627370496) f) : Sg .f64 f 1023 false := by
  obtain ⟨s, r, rfl, hr, hs⟩ := h
  exact sg_word (k := .f64) (R := 1023) hr (by decide) (by decide) (fun hz => hs (by cases s with | false => exact absurd rfl hz | true => rfl))
theorem Fr.up {R f : Nat} (h : Fr (R * 4503599627370496) f) : Up .f64 f R := by
  obtain ⟨s, r, a, b, _⟩ := h
  exact ⟨s, r, a, b⟩
theorem sg_key {x : Nat} (h : Sg .f64 x 1023 true) : Fin64 x ∧ fkey .f64 x ≤ 0 ∧ -((pw 1074 : Nat) : Int) ≤ fkey .f64 x := by
  obtain ⟨s, m, e, a, b, c, d⟩ := h
  have he : -1074 ≤ e := by
    have h0 := a
    unfold Format.read at h0
    dsimp only at h0
    have : FloatKind.f64.format.leastPlace = -1074 := lp64
    split at h0
    · injection h0 with _ _ h3; omega
    · split at h0
      · injection h0 with _ _ h3; omega
      · split at h0 <;> cases h0
  have hk := key_of (x := x) (s := s) (m := m) (e := e) a
  refine ⟨⟨s, m, e, a, he⟩, ?_⟩
  rw [hk]
  have hb : bias .f64 = 1023 := rfl
  rw [hb] at b c
  have hm : m <<< (e + 1074).toNat ≤ pw 1074 := by
    rw [Nat.shiftLeft_eq, pw_eq]
    have h2 : 2 ^ 1074 = 2 ^ (((1023 : Nat) : Int) - ((1023 : Nat) : Int) - e).toNat * 2 ^ (e + 1074).toNat := by rw [← Nat.pow_add]; congr 1; omega
    rw [h2]
    exact Nat.mul_le_mul_right _ c
  unfold signed
  cases s
  · have := d (by decide)
    subst this
    simp
  · simp only [if_true]
    generalize m <<< (e + 1074).toNat = u at *
    generalize pw 1074 = P at *
    omega
/-- 1 and a number from -1 to 0. -/
theorem one_less {x : Nat} (h : Sg .f64 x 1023 true) : Fr (1023 * 4503599627370496) (fop .add .f64 kO x) ∧ (∀ w, fres .add .f64 kO x w = fop .add .f64 kO x) ∧ fdr .add .f64 kO x = 0 := by
  obtain ⟨f, k0, k1⟩ := sg_key h
  obtain ⟨f1, o1⟩ := kO_key
  have S := add_key 1023 f1 f (by decide) (by
    rw [o1, ← cell_pow]
    generalize fkey .f64 x = k at *
    generalize pw 1074 = P at *
    omega)
  refine ⟨S.fr ?_, S.res, S.dr⟩
  rw [o1]
  generalize fkey .f64 x = k at *
  generalize pw 1074 = P at *
  omega
/-- The exponential's series. -/
def exT (x : Nat) : Nat := fop .quo .f64 x 4643211215818981376
def exP (t : Nat) : Nat → Nat
  | 0 => kO
  | j + 1 => fop .add .f64 kO (fop .quo .f64 (fop .mul .f64 t (exP t j)) (floatOfInt .f64 (12 - (j : Int))))
def exS (p : Nat) : Nat → Nat
  | 0 => p
  | j + 1 => fop .mul .f64 (exS p j) (exS p j)
def exW (x : Nat) : Nat := exS (exP (exT x) 12) 8
theorem fr_kO : Fr (1023 * 4503599627370496) kO := ⟨false, _, kO_word, by decide, (fun h => by cases h)⟩
/-- The divisors: at least 1; told as powers of two below them. -/
theorem quo_ge {x y R1 : Nat} {a : Bool} (hx : Sg .f64 x R1 a) (hu : Up .f64 x R1) (h1 : 1 ≤ R1) (t1 : R1 ≤ 2046) (hy : ∃ hi, In .f64 y 1023 hi ∧ hi ≤ 2046) : Dsg .quo .f64 x y R1 a := by
  obtain ⟨hi, hy, hhi⟩ := hy
  have t2 : hi ≤ 2 * bias .f64 := hhi
  have hb : bias .f64 = 1023 := rfl
  obtain ⟨s2, q2, eq2, hq2⟩ := up_quo hu (hy.lo t2) h1 (by decide) (by rw [hb]; omega) (show R1 + 1023 = R1 + bias .f64 by rw [hb]) h1
  obtain ⟨s, m, e, rx, be, bm, za⟩ := hx
  obtain ⟨n, j, ry, n0, _⟩ := hy.read (by decide) t2
  have hbb : ∃ Q E, floatBits .quo .f64 x y = some (FloatKind.f64.format.write (.number s Q E)) ∧ (m = 0 → Q = 0) := by
    refine ⟨2 * (m <<< (FloatKind.f64.format.fractionBits + 2 + n.log2 - m.log2) / n) + (m <<< (FloatKind.f64.format.fractionBits + 2 + n.log2 - m.log2) % n != 0).toNat, e - j - (FloatKind.f64.format.fractionBits + 2 + n.log2 - m.log2 : Nat) - 1, by simp [floatBits, Format.div, rx, ry, Datum.quotient, n0], fun h => ?_⟩
    subst h
    simp
  obtain ⟨Q, E, hQ, hz⟩ := hbb
  obtain ⟨p1, p2, p3⟩ := det0 (op := .quo) (k := .f64) (x := x) (y := y) hQ rfl
  refine ⟨p1, p2, ?_⟩
  have p3' : fop .quo .f64 x y = FloatKind.f64.format.nearest s Q E := p3
  obtain ⟨q, hq, eq⟩ := nearest_word FloatKind.f64.format s Q E
  have hI := infRung_lt' .f64
  have hI2 := inf_eq .f64
  have hB := binade_pos FloatKind.f64.format
  have hlt2 : q2 < FloatKind.f64.format.signWeight := by
    have : R1 * FloatKind.f64.format.binade ≤ (2 * bias .f64) * FloatKind.f64.format.binade := Nat.mul_le_mul_right _ t1
    rw [Nat.add_mul] at hI2
    omega
  have e3 : q = q2 := word_inj (f := FloatKind.f64.format) (s := s) (t := s2) (by omega) hlt2 (by rw [← eq, ← p3', eq2])
  by_cases hm : m = 0
  · rw [p3', hz hm, near0]
    exact sg_word (Nat.zero_le _) h1 t1 (fun _ => rfl)
  · rw [p3', eq, e3]
    refine sg_word hq2 h1 t1 (fun h => ?_)
    exact absurd (za h) hm
theorem kd_tab : ∀ j : Nat, j < 12 → 1023 * 4503599627370496 ≤ floatOfInt .f64 (12 - (j : Int)) ∧ floatOfInt .f64 (12 - (j : Int)) ≤ 1027 * 4503599627370496 := by decide +kernel
theorem kd_in {j : Nat} (hj : j < 12) : ∃ hi, In .f64 (floatOfInt .f64 (12 - (j : Int))) 1023 hi ∧ hi ≤ 2046 := by
  obtain ⟨a, b⟩ := kd_tab j hj
  exact ⟨1027, ⟨a, b⟩, by decide⟩
/-- What the walk of the series wants to know at each step. -/
structure ExStep (t j : Nat) : Prop where
  m : Det .mul .f64 t (exP t j) 1023
  q : ∀ w, fres .quo .f64 (fop .mul .f64 t (exP t j)) (floatOfInt .f64 (12 - (j : Int))) w = fop .quo .f64 (fop .mul .f64 t (exP t j)) (floatOfInt .f64 (12 - (j : Int)))
  qd : fdr .quo .f64 (fop .mul .f64 t (exP t j)) (floatOfInt .f64 (12 - (j : Int))) = 0
  a : ∀ w, fres .add .f64 kO (fop .quo .f64 (fop .mul .f64 t (exP t j)) (floatOfInt .f64 (12 - (j : Int)))) w = exP t (j + 1)
  ad : fdr .add .f64 kO (fop .quo .f64 (fop .mul .f64 t (exP t j)) (floatOfInt .f64 (12 - (j : Int)))) = 0
theorem ex_step {t : Nat} (ht : Sg .f64 t 1023 true) : ∀ j, j ≤ 12 → Fr (1023 * 4503599627370496) (exP t j) ∧ (j < 12 → ExStep t j) := by
  have key : ∀ j, j < 12 → Fr (1023 * 4503599627370496) (exP t j) → ExStep t j ∧ Fr (1023 * 4503599627370496) (exP t (j + 1)) := by
    intro j hj hf
    have M := sg_mul (R := 1023) ht hf.sg (by rw [bias64]) (by decide) (by decide)
    have MD := det_mul (R := 1023) ht.sm hf.sg.sm (by rw [bias64]) (by decide)
    have Q := quo_ge M.sg MD.up (by decide) (by decide) (kd_in hj)
    obtain ⟨o1, o2, o3⟩ := one_less Q.sg
    exact ⟨⟨MD, Q.res, Q.dr, o2, o3⟩, o1⟩
  intro j
  induction j with
  | zero => exact fun _ => ⟨fr_kO, fun h => (key 0 h fr_kO).1⟩
  | succ j ih =>
    intro hj
    have h1 := (key j (by omega) (ih (by omega)).1).2
    exact ⟨h1, fun h => (key (j + 1) h h1).1⟩
theorem sq_step {p : Nat} (hp : Fr (1023 * 4503599627370496) p) : ∀ j, Fr (1023 * 4503599627370496) (exS p j) ∧ Det .mul .f64 (exS p j) (exS p j) 1023 := by
  have key : ∀ f, Fr (1023 * 4503599627370496) f → Det .mul .f64 f f 1023 ∧ Fr (1023 * 4503599627370496) (fop .mul .f64 f f) := by
    intro f hf
    have MD := det_mul (R := 1023) hf.sg.sm hf.sg.sm (by rw [bias64]) (by decide)
    obtain ⟨s, r, e1, e2⟩ := MD.up
    obtain ⟨s', m, e, a, _, _, c⟩ := hf.sg
    have hw : ∃ q, fop .mul .f64 f f = double.word false q := by
      obtain ⟨p1, p2, p3⟩ := det0 (op := .mul) (k := .f64) (x := f) (y := f) (d := .number (s' ^^ s') (m * m) (e + e)) (by simp [floatBits, Format.mul, a, Datum.product]) rfl
      obtain ⟨q, _, hq⟩ := nearest_word double (s' ^^ s') (m * m) (e + e)
      rw [Bool.xor_self] at hq p3
      exact ⟨q, by rw [p3]; exact hq⟩
    obtain ⟨q, hq⟩ := hw
    have e3 : double.word false q = double.word s r := by rw [← hq]; exact e1
    refine ⟨MD, ?_⟩
    cases s
    · exact ⟨false, r, e1, e2, (fun h => by cases h)⟩
    · have hB : FloatKind.f64.format.binade = 4503599627370496 := rfl
      obtain ⟨q', hq1, hq2⟩ := nearest_word double false (m * m) (e + e)
      have hq3 : double.word false q = double.word false q' := by
        obtain ⟨p1, p2, p3⟩ := det0 (op := .mul) (k := .f64) (x := f) (y := f) (d := .number (s' ^^ s') (m * m) (e + e)) (by simp [floatBits, Format.mul, a, Datum.product]) rfl
        rw [Bool.xor_self] at p3
        rw [← hq, p3]
        exact hq2
      have h4 : q = q' := hq3
      have hn := word_neg double false (r := q) (by rw [h4]; exact Nat.lt_of_le_of_lt hq1 (infRung_lt' .f64))
      rw [e3] at hn
      have hr2 : r < double.signWeight := by
        have : r ≤ 1023 * 4503599627370496 := e2
        rw [sw64]; omega
      rw [word_neg double true hr2] at hn
      cases hn
  intro j
  induction j with
  | zero => exact ⟨hp, (key p hp).1⟩
  | succ j ih =>
    have h1 : Fr (1023 * 4503599627370496) (exS p (j + 1)) := (key _ ih.1).2
    exact ⟨h1, (key _ h1).1⟩
end Go.Proofs.Ytamgekijihpgkaa
