/- The point of the unit circle at some turns, as a plain function of the word. Plain but for the library's small functions. -/
import Derived.Test.YtamgekijihpgkaaPhV
namespace Go.Proofs.Ytamgekijihpgkaa
open Go.RowKit Ieee

/-- Quarters taken off. -/
def qrt : Nat → Nat → Nat × Nat
  | 0, f => (0, f)
  | n + 1, f => if geC f kQ then ((qrt n (fop .sub .f64 f kQ)).1 + 1, (qrt n (fop .sub .f64 f kQ)).2) else (0, f)
theorem qrt_stop {n f : Nat} (h : geC f kQ = false) : qrt n f = (0, f) := by
  cases n with
  | zero => rfl
  | succ n => unfold qrt; rw [h]; rfl
theorem qrt_go {n f : Nat} (h : geC f kQ = true) : qrt (n + 1) f = ((qrt n (fop .sub .f64 f kQ)).1 + 1, (qrt n (fop .sub .f64 f kQ)).2) := by
  show (if geC f kQ then _ else _) = _
  rw [h]; rfl
def ph3 (q c s : Nat) : Nat × Nat :=
  if q = 1 then (n32 (cn .f64 (fop .sub .f64 0 s)), n32 (cn .f64 c)) else
  if q = 2 then (n32 (cn .f64 (fop .sub .f64 0 c)), n32 (cn .f64 (fop .sub .f64 0 s))) else
  if q = 3 then (n32 (cn .f64 s), n32 (cn .f64 (fop .sub .f64 0 c))) else (n32 (cn .f64 c), n32 (cn .f64 s))
def ph2 (f : Nat) : Nat × Nat := ph3 (qrt 4 f).1 (sinF (fop .sub .f64 kQ (qrt 4 f).2)) (sinF (qrt 4 f).2)
def phV (x : Nat) : Nat × Nat :=
  if 2047 * 4503599627370496 ≤ x % 9223372036854775808 then (qn .f32, qn .f32)
  else if 1075 * 4503599627370496 ≤ x % 9223372036854775808 then (1065353216, 0)
  else ph2 (frF x)
theorem phV_cn (x : Nat) : phV (cn .f64 x) = phV x := by
  cases h : isN .f64 x
  · rw [cn_of_not h]
  · rw [cn_of_nan h]
    have e : ∀ y, isN .f64 y = true → phV y = (qn .f32, qn .f32) := by
      intro y hy
      rw [isN_mod] at hy
      have h1 : FloatKind.f64.format.infRung = 2047 * 4503599627370496 := inf64
      have h2 : FloatKind.f64.format.signWeight = 9223372036854775808 := sw64
      rw [h1, h2] at hy
      unfold phV
      rw [if_pos (by have := of_decide_eq_true hy; omega)]
    rw [e _ h, e _ (isN_qn .f64)]
def finX (X : Nat) : Bool := ford .f64 (fop .sub .f64 X X) (cn .f64 0) == some .eq
/-- A 64-bit word that is a NaN, an infinity, or a number. -/
inductive Kd (x : Nat) : Prop
  | nan (h : isN .f64 x = true) : Kd x
  | inf (s : Bool) (h : x = double.word s (2047 * 4503599627370496)) : Kd x
  | num (s : Bool) (r : Nat) (h : x = double.word s r) (hr : r < 2047 * 4503599627370496) : Kd x
theorem wmod (s : Bool) {r : Nat} (hr : r < 9223372036854775808) : double.word s r % 9223372036854775808 = r := by
  have := rung_word double s (r := r) (by rw [sw64]; exact hr)
  rw [sw64] at this
  exact this
theorem finX_num {x : Nat} {s : Bool} {r : Nat} (hx : x = double.word s r) (hr : r < 2047 * 4503599627370496) : finX (cn .f64 x) = true := by
  have hf : Fin64 x := by rw [hx]; exact fin_word s hr
  have S := sub_key 1 hf hf (by omega) (by rw [Int.sub_self]; exact Nat.zero_le _)
  obtain ⟨sg, r', a, _, _, _, d⟩ := S.wd
  unfold finX
  rw [fop_cn, a, d (Int.sub_self _)]
  cases sg <;> decide +kernel
theorem finX_bad {x : Nat} (h : floatBits .sub .f64 x x = none) : finX (cn .f64 x) = false := by
  unfold finX
  rw [fop_cn]
  have : fop .sub .f64 x x = qn .f64 := by unfold fop; rw [h]
  rw [this, ford_nanL _ (isN_qn .f64)]
  rfl
theorem finX_nan {x : Nat} (h : isN .f64 x = true) : finX (cn .f64 x) = false := finX_bad (floatBits_nanL _ _ h)
theorem finX_inf (s : Bool) : finX (cn .f64 (double.word s (2047 * 4503599627370496))) = false := by cases s <;> decide +kernel
theorem phV_bad {x : Nat} (h : 2047 * 4503599627370496 ≤ x % 9223372036854775808) : phV x = (qn .f32, qn .f32) := by unfold phV; rw [if_pos h]
theorem Kd.bad {x : Nat} (h : Kd x) (hf : finX (cn .f64 x) = false) : phV x = (qn .f32, qn .f32) := by
  cases h with
  | nan h =>
    rw [isN_mod] at h
    have h1 : FloatKind.f64.format.infRung = 2047 * 4503599627370496 := inf64
    have h2 : FloatKind.f64.format.signWeight = 9223372036854775808 := sw64
    rw [h1, h2] at h
    exact phV_bad (by have := of_decide_eq_true h; omega)
  | inf s h => subst h; exact phV_bad (by rw [wmod s (by omega)]; omega)
  | num s r h hr => rw [finX_num h hr] at hf; cases hf
theorem Kd.good {x : Nat} (h : Kd x) (hf : finX (cn .f64 x) = true) : ∃ s r, x = double.word s r ∧ r < 2047 * 4503599627370496 := by
  cases h with
  | nan h => rw [finX_nan h] at hf; cases hf
  | inf s h => rw [h, finX_inf] at hf; cases hf
  | num s r h hr => exact ⟨s, r, h, hr⟩
theorem big_key {r : Nat} (hr : r < 2047 * 4503599627370496) : geC (double.word false r) 4841369599423283200 = decide (1075 * 4503599627370496 ≤ r) := by
  have c1 : (4841369599423283200 : Nat) = double.word false ((1074 + 1) * 4503599627370496) := by decide +kernel
  rw [c1, geC_key (num_word false hr) (num_word false (by omega)), key_word false hr, key_word false (by omega)]
  simp only [Bool.false_eq_true, if_false]
  rcases Nat.lt_or_ge r (1075 * 4503599627370496) with h | h
  · have hlt : rval double r < rval double ((1074 + 1) * 4503599627370496) := rval_lt (f := double) h
    generalize rval double r = u at *
    generalize rval double ((1074 + 1) * 4503599627370496) = v at *
    rw [decide_eq_false (by omega), decide_eq_false (by omega)]
  · have hle : rval double ((1074 + 1) * 4503599627370496) ≤ rval double r := rval_le (f := double) h
    generalize rval double r = u at *
    generalize rval double ((1074 + 1) * 4503599627370496) = v at *
    rw [decide_eq_true (by omega), decide_eq_true (by omega)]
/-- The reference's look at the size. -/
theorem big_spec (s : Bool) {r : Nat} (hr : r < 2047 * 4503599627370496) (hb : 1075 * 4503599627370496 ≤ r) : geC (double.word s r) 4841369599423283200 = !s ∧ (ford .f64 (cn .f64 (double.word s r)) (cn .f64 14064741636278059008) == some .lt || ford .f64 (cn .f64 (double.word s r)) (cn .f64 14064741636278059008) == some .eq) = s := by
  have c1 : (4841369599423283200 : Nat) = double.word false ((1074 + 1) * 4503599627370496) := by decide +kernel
  have c2 : (14064741636278059008 : Nat) = double.word true ((1074 + 1) * 4503599627370496) := by decide +kernel
  have hle : rval double ((1074 + 1) * 4503599627370496) ≤ rval double r := rval_le (f := double) hb
  have hp : 0 < rval double ((1074 + 1) * 4503599627370496) := by
    have := rval_lt (f := double) (r := 0) (r' := (1074 + 1) * 4503599627370496) (by omega)
    omega
  constructor
  · rw [c1, geC_key (num_word s hr) (num_word false (by omega)), key_word s hr, key_word false (by omega)]
    simp only [Bool.false_eq_true, if_false]
    generalize rval double r = u at *
    generalize rval double ((1074 + 1) * 4503599627370496) = v at *
    cases s
    · exact decide_eq_true (by simp; omega)
    · exact decide_eq_false (by simp; omega)
  · rw [c2, ford_cn, ford_key (num_word s hr) (num_word true (by omega)), key_word s hr, key_word true (by omega)]
    simp only [if_true]
    generalize rval double r = u at *
    generalize rval double ((1074 + 1) * 4503599627370496) = v at *
    cases s
    · rw [cmp_gt (by simp; omega)]; rfl
    · simp only [if_true]
      rcases Nat.lt_or_eq_of_le hle with h | h
      · rw [cmp_lt (by omega)]; rfl
      · rw [h, cmp_eq]; rfl
theorem phV_big {x : Nat} {s : Bool} {r : Nat} (hx : x = double.word s r) (hr : r < 2047 * 4503599627370496) (hb : 1075 * 4503599627370496 ≤ r) : phV x = (1065353216, 0) := by
  unfold phV
  rw [hx, wmod s (by omega), if_neg (by omega), if_pos hb]
theorem phV_small {x : Nat} {s : Bool} {r : Nat} (hx : x = double.word s r) (hb : r < 1075 * 4503599627370496) : phV x = ph2 (frF x) := by
  unfold phV
  rw [hx, wmod s (by omega), if_neg (by omega), if_neg (by omega)]
/-- What the loop of the quarters wants to know: after j of them. -/
structure Qv (f0 f j : Nat) : Prop where
  le : j ≤ 4
  fr : Fr (Rof (4 - j)) f
  eq : qrt 4 f0 = ((qrt (4 - j) f).1 + j, (qrt (4 - j) f).2)
theorem Qv.start {f : Nat} (h : Fr (1023 * 4503599627370496) f) : Qv f f 0 := ⟨by omega, h, rfl⟩
theorem Rof_le (j : Nat) (h : j ≤ 4) : Rof j ≤ 1023 * 4503599627370496 := by
  have : j = 0 ∨ j = 1 ∨ j = 2 ∨ j = 3 ∨ j = 4 := by omega
  rcases this with rfl | rfl | rfl | rfl | rfl
  · exact Nat.zero_le _
  · show R1 ≤ _; unfold R1; omega
  · show R2 ≤ _; unfold R2; omega
  · show R3 ≤ _; unfold R3; omega
  · exact Nat.le_refl _
theorem Qv.num {f0 f j : Nat} (h : Qv f0 f j) : isN .f64 f = false := h.fr.num (by have := Rof_le (4 - j) (by omega); omega)
theorem kQ_num : isN .f64 kQ = false := by decide +kernel
theorem Qv.go {f0 f j : Nat} (h : Qv f0 f j) (hg : geC f kQ = true) : j < 4 ∧ (∀ w, fres .sub .f64 f kQ w = fop .sub .f64 f kQ) ∧ fdr .sub .f64 f kQ = 0 ∧ Qv f0 (fop .sub .f64 f kQ) (j + 1) := by
  have hk : fkey .f64 kQ ≤ fkey .f64 f := by
    rw [geC_key h.num kQ_num] at hg
    exact of_decide_eq_true hg
  have hj : j < 4 := by
    rcases Nat.lt_or_ge j 4 with h' | h'
    · exact h'
    · exfalso
      have h2 := h.fr
      rw [show 4 - j = 0 by omega] at h2
      exact fr_zero h2 hk
  have hs := quarter_step (f := f) (j := 4 - (j + 1)) (by rw [show 4 - (j + 1) + 1 = 4 - j by omega]; exact h.fr) (by omega) hk
  refine ⟨hj, hs.res, hs.dr, by omega, hs.fr, ?_⟩
  rw [h.eq, show 4 - j = (4 - (j + 1)) + 1 by omega, qrt_go hg]
  dsimp only
  congr 1
  omega
theorem Qv.stop {f0 f j : Nat} (h : Qv f0 f j) (hg : geC f kQ = false) : qrt 4 f0 = (j, f) ∧ Fr (1023 * 4503599627370496) f ∧ Fr (1023 * 4503599627370496) (fop .sub .f64 kQ f) ∧ (∀ w, fres .sub .f64 kQ f w = fop .sub .f64 kQ f) ∧ fdr .sub .f64 kQ f = 0 := by
  have hk : ¬ fkey .f64 kQ ≤ fkey .f64 f := by
    rw [geC_key h.num kQ_num] at hg
    exact of_decide_eq_false hg
  have hf := h.fr.weak (Rof_le (4 - j) (by omega))
  obtain ⟨a, b, c⟩ := quarter_left hf hk
  refine ⟨?_, hf, a.weak (by omega), b, c⟩
  rw [h.eq, qrt_stop hg]
  simp
/-- What the end of the phasor wants to know of a sine. -/
structure SW (c : Nat) : Prop where
  fit : nfit c = true
  res : ∀ w, fres .sub .f64 0 c w = fop .sub .f64 0 c
  dr : fdr .sub .f64 0 c = 0
  fit2 : nfit (fop .sub .f64 0 c) = true
theorem sw_of {x : Nat} (h : Fr (1023 * 4503599627370496) x) : FrW x ∧ SW (sinF x) := by
  obtain ⟨s, r, hx, hr⟩ := h.word
  have hw : FrW x := by rw [hx]; exact frW hr
  have hu := sinF_up (sinW hw.fr)
  have D := det_sub (R := 1116) (Sm.weak (upSm up_0 (by omega) (by omega)) (by omega)) (upSm hu (by omega) (by omega)) (by omega)
  exact ⟨hw, hu.fit (by omega) (by omega), D.res, D.dr, D.up.fit (by omega) (by omega)⟩
end Go.Proofs.Ytamgekijihpgkaa
