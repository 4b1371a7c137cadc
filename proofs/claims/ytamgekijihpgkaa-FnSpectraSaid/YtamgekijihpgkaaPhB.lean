/- The sine and the point of the unit circle at some turns, as plain functions; what is known of their operations. Plain: nothing of the dump. -/
import Derived.Test.YtamgekijihpgkaaPhA
import Derived.Test.YtamgekijihpgkaaMa
import Derived.Test.YtamgekijihpgkaaNeg
namespace Go.Proofs.Ytamgekijihpgkaa
open Go.RowKit Ieee

theorem det_quo {k : FloatKind} {x y R1 R2 R : Nat} (hx : Up k x R1) (hy : Lo k y R2) (h1 : 1 ≤ R1) (h2 : 1 ≤ R2) (t1 : R1 ≤ 2 * bias k) (hR : R + R2 = R1 + bias k) (h0 : 1 ≤ R) : Det .quo k x y R := by
  obtain ⟨s, m, e, rx, _⟩ := hx.read h1 t1
  obtain ⟨t, n, j, ry, hn, _⟩ := hy.read h2
  have hu := up_quo hx hy h1 h2 t1 hR h0
  have hb : ∃ d, floatBits .quo k x y = some (k.format.write d) ∧ d.isNaN = false := by
    refine ⟨_, by simp [floatBits, Format.div, rx, ry, Datum.quotient, hn]; rfl, rfl⟩
  obtain ⟨d, hd, hn2⟩ := hb
  have hf := fop_of hd hn2
  refine ⟨fun w => ?_, ?_, hu⟩
  · unfold fres; rw [hd, hf]
  · unfold fdr; rw [hd]
/-- The whole turns taken off. -/
def frI (x : Nat) : Int := ((double.read x).toInt .zero).getD 0
def frA (x : Nat) : Nat := fop .sub .f64 x (floatOfInt .f64 (frI x))
def lt0 (x : Nat) : Bool := ford .f64 (cn .f64 x) (cn .f64 0) == some .lt
def frF (x : Nat) : Nat := if lt0 (frA x) then fop .add .f64 (frA x) kO else frA x
theorem num_word (s : Bool) {r : Nat} (h : r < 2047 * 4503599627370496) : isN .f64 (double.word s r) = false := by
  have := isN_word .f64 s (r := r) (by show r < double.signWeight; rw [sw64]; omega)
  have e : FloatKind.f64.format.word s r = double.word s r := rfl
  rw [e] at this
  rw [this]
  have : FloatKind.f64.format.infRung = 2047 * 4503599627370496 := inf64
  rw [this]
  simp; omega
theorem Fr.num {R f : Nat} (h : Fr R f) (hR : R < 2047 * 4503599627370496) : isN .f64 f = false := by
  obtain ⟨s, r, rfl, hr, _⟩ := h
  exact num_word s (by omega)
theorem key_0 : fkey .f64 0 = 0 := by decide +kernel
theorem lt0_key {x : Nat} (h : isN .f64 x = false) : lt0 x = decide (fkey .f64 x < 0) := by
  unfold lt0
  rw [ford_cn, ford_key h (by decide +kernel), key_0]
  rcases Int.lt_trichotomy (fkey .f64 x) 0 with h' | h' | h'
  · rw [cmp_lt h']; simp [h']
  · rw [h', cmp_eq]; simp
  · rw [cmp_gt h']; simp; omega
/-- x ≥ c, as the walk spells it. -/
def geC (x c : Nat) : Bool := ford .f64 (cn .f64 x) (cn .f64 c) == some .gt || ford .f64 (cn .f64 x) (cn .f64 c) == some .eq
def gtC (x c : Nat) : Bool := ford .f64 (cn .f64 x) (cn .f64 c) == some .gt
theorem geC_key {x c : Nat} (h : isN .f64 x = false) (hc : isN .f64 c = false) : geC x c = decide (fkey .f64 c ≤ fkey .f64 x) := by
  unfold geC
  rw [ford_cn, ford_key h hc]
  rcases Int.lt_trichotomy (fkey .f64 x) (fkey .f64 c) with h' | h' | h'
  · rw [cmp_lt h']; simp; omega
  · rw [h', cmp_eq]; simp
  · rw [cmp_gt h']; simp; omega
/-- What the walk of the fraction wants to know. -/
structure FrW (x : Nat) : Prop where
  int : (double.read x).toInt .zero = some (frI x)
  lo : -4503599627370496 ≤ frI x
  hi : frI x ≤ 4503599627370496
  res : ∀ w, fres .sub .f64 x (floatOfInt .f64 (frI x)) w = frA x
  dr : fdr .sub .f64 x (floatOfInt .f64 (frI x)) = 0
  up : lt0 (frA x) = true → (∀ w, fres .add .f64 (frA x) 4607182418800017408 w = fop .add .f64 (frA x) kO) ∧ fdr .add .f64 (frA x) 4607182418800017408 = 0
  fr : Fr (1023 * 4503599627370496) (frF x)
theorem frW {s : Bool} {r : Nat} (hr : r < 1075 * 4503599627370496) : FrW (double.word s r) := by
  obtain ⟨n, h⟩ := frac_of (s := s) hr
  have hi : frI (double.word s r) = n := by unfold frI; rw [h.int]; rfl
  obtain ⟨sg, r', hw, hr'⟩ := h.wd
  have ha : frA (double.word s r) = double.word sg r' := by unfold frA; rw [hi]; exact hw
  have hn := num_word sg (r := r') (by omega)
  refine ⟨by rw [hi]; exact h.int, by rw [hi]; exact h.lo, by rw [hi]; exact h.hi, fun w => by unfold frA; rw [hi]; exact h.res w, by rw [hi]; exact h.dr, fun hl => ?_, ?_⟩
  · rw [ha] at hl ⊢
    rw [lt0_key hn] at hl
    exact (frac_up hr' (of_decide_eq_true hl)).2
  · unfold frF
    rw [ha]
    cases hl : lt0 (double.word sg r')
    · rw [lt0_key hn] at hl
      exact frac_stay hr' (by have := of_decide_eq_false hl; omega)
    · rw [lt0_key hn] at hl
      exact (frac_up hr' (of_decide_eq_true hl)).1
theorem Fr.word {f : Nat} (h : Fr (1023 * 4503599627370496) f) : ∃ s r, f = double.word s r ∧ r < 1075 * 4503599627370496 := by
  obtain ⟨s, r, a, b, _⟩ := h
  exact ⟨s, r, a, by omega⟩
/-- The series. -/
def sD (k : Int) : Nat := floatOfInt .f64 (2 * k * (2 * k + 1))
def sP (u : Nat) : Nat → Nat
  | 0 => kO
  | j + 1 => fop .sub .f64 kO (fop .quo .f64 (fop .mul .f64 u (sP u j)) (sD (8 - (j : Int))))
def kH : Nat := 4602678819172646912
def k2P : Nat := 4618760256179416344
def sin1 (x : Nat) : Nat := if geC (frF x) kH then fop .sub .f64 (frF x) kH else frF x
def sin2 (x : Nat) : Nat := if gtC (sin1 x) kQ then fop .sub .f64 kH (sin1 x) else sin1 x
def sinZ (x : Nat) : Nat := fop .mul .f64 (sin2 x) k2P
def sinU (x : Nat) : Nat := fop .mul .f64 (sinZ x) (sinZ x)
def sinV (x : Nat) : Nat := fop .mul .f64 (sinZ x) (sP (sinU x) 8)
def sinF (x : Nat) : Nat := if geC (frF x) kH then Op.negFloat .f64 (sinV x) else sinV x
theorem up_kO : Up .f64 kO 1023 := ⟨false, 1023 * 4503599627370496, kO_word, by decide⟩
theorem up_kQ : Up .f64 kQ 1021 := ⟨false, 1021 * 4503599627370496, kQ_word, by decide⟩
theorem up_kH : Up .f64 kH 1022 := ⟨false, 1022 * 4503599627370496, by decide +kernel, by decide⟩
theorem up_k2P : Up .f64 k2P 1026 := ⟨false, k2P, rfl, by decide⟩
theorem up_0 : Up .f64 0 1 := ⟨false, 0, rfl, by decide⟩
theorem word_f (f : Format) (r : Nat) : f.word false r = r := rfl
theorem sD_tab : ∀ j : Nat, j < 8 → 1023 * 4503599627370496 ≤ sD (8 - (j : Int)) ∧ sD (8 - (j : Int)) < 2047 * 4503599627370496 := by decide +kernel
theorem sD_lo : ∀ j : Nat, j < 8 → Lo .f64 (sD (8 - (j : Int))) 1023 := by
  intro j hj
  obtain ⟨a, b⟩ := sD_tab j hj
  generalize sD (8 - (j : Int)) = d at *
  have hI : FloatKind.f64.format.infRung = 2047 * 4503599627370496 := inf64
  exact ⟨false, d, (word_f _ _).symm, a, by rw [hI]; exact b⟩
theorem upSm {x R : Nat} (h : Up .f64 x R) (h1 : 1 ≤ R) (h2 : R ≤ 2046) : Sm .f64 x R := h.sm h1 (by show R ≤ 2 * 1023; omega)
theorem bias64 : bias .f64 = 1023 := rfl
theorem sP_up {u : Nat} (hu : Up .f64 u 1033) : ∀ j, j ≤ 8 → Up .f64 (sP u j) (1023 + 11 * j) ∧ (j < 8 → Det .mul .f64 u (sP u j) (1033 + 11 * j) ∧ Det .quo .f64 (fop .mul .f64 u (sP u j)) (sD (8 - (j : Int))) (1033 + 11 * j) ∧ Det .sub .f64 kO (fop .quo .f64 (fop .mul .f64 u (sP u j)) (sD (8 - (j : Int)))) (1034 + 11 * j)) := by
  intro j
  induction j with
  | zero =>
    intro _
    have h0 : Up .f64 (sP u 0) 1023 := up_kO
    refine ⟨h0, fun hj => ?_⟩
    have D1 := det_mul (R := 1033 + 11 * 0) (upSm hu (by omega) (by omega)) (upSm h0 (by omega) (by omega)) (by rw [bias64]) (by omega)
    have D2 := det_quo (R := 1033 + 11 * 0) D1.up (sD_lo 0 hj) (by omega) (by omega) (by rw [bias64]; omega) (by rw [bias64]) (by omega)
    exact ⟨D1, D2, (det_sub (R := 1033 + 11 * 0) (Sm.weak (upSm up_kO (by omega) (by omega)) (by omega)) (upSm D2.up (by omega) (by omega)) (by omega))⟩
  | succ j ih =>
    intro hj
    obtain ⟨_, h⟩ := ih (by omega)
    obtain ⟨_, _, d3⟩ := h (by omega)
    have h0 : Up .f64 (sP u (j + 1)) (1023 + 11 * (j + 1)) := by
      have := d3.up
      rw [show 1023 + 11 * (j + 1) = 1034 + 11 * j by omega]
      exact this
    refine ⟨h0, fun hj' => ?_⟩
    have D1 := det_mul (R := 1033 + 11 * (j + 1)) (upSm hu (by omega) (by omega)) (upSm h0 (by omega) (by omega)) (by rw [bias64]; omega) (by omega)
    have D2 := det_quo (R := 1033 + 11 * (j + 1)) D1.up (sD_lo (j + 1) hj') (by omega) (by omega) (by rw [bias64]; omega) (by rw [bias64]) (by omega)
    have D3 := det_sub (R := 1033 + 11 * (j + 1)) (Sm.weak (upSm up_kO (by omega) (by omega)) (by omega)) (upSm D2.up (by omega) (by omega)) (by omega)
    exact ⟨D1, D2, by rw [show 1034 + 11 * (j + 1) = 1033 + 11 * (j + 1) + 1 by omega]; exact D3⟩
/-- What the walk of the sine wants to know. -/
structure SinW (x : Nat) : Prop where
  a1 : Det .sub .f64 (frF x) kH 1024
  a2 : Det .sub .f64 kH (sin1 x) 1025
  z : Det .mul .f64 (sin2 x) k2P 1028
  u : Det .mul .f64 (sinZ x) (sinZ x) 1033
  v : Det .mul .f64 (sinZ x) (sP (sinU x) 8) 1116
theorem sinW {x : Nat} (h : Fr (1023 * 4503599627370496) (frF x)) : SinW x := by
  have f0 : Up .f64 (frF x) 1023 := by obtain ⟨s, r, a, b, _⟩ := h; exact ⟨s, r, a, b⟩
  have A1 := det_sub (R := 1023) (upSm f0 (by omega) (by omega)) (Sm.weak (upSm up_kH (by omega) (by omega)) (by omega)) (by omega)
  have f1 : Up .f64 (sin1 x) 1024 := by
    unfold sin1
    split
    · exact A1.up
    · exact f0.weak (by omega)
  have A2 := det_sub (R := 1024) (Sm.weak (upSm up_kH (by omega) (by omega)) (by omega)) (upSm f1 (by omega) (by omega)) (by omega)
  have f2 : Up .f64 (sin2 x) 1025 := by
    unfold sin2
    split
    · exact A2.up
    · exact f1.weak (by omega)
  have Z := det_mul (R := 1028) (upSm f2 (by omega) (by omega)) (upSm up_k2P (by omega) (by omega)) (by rw [bias64]) (by omega)
  have hz : Up .f64 (sinZ x) 1028 := Z.up
  have U := det_mul (R := 1033) (upSm hz (by omega) (by omega)) (upSm hz (by omega) (by omega)) (by rw [bias64]) (by omega)
  have hu : Up .f64 (sinU x) 1033 := U.up
  have hp := (sP_up hu 8 (by omega)).1
  exact ⟨A1, A2, Z, U, det_mul (R := 1116) (upSm hz (by omega) (by omega)) (upSm hp (by omega) (by omega)) (by rw [bias64]) (by omega)⟩
theorem neg_up {x R : Nat} (h : Up .f64 x R) (hR : R ≤ 2046) : Up .f64 (Op.negFloat .f64 x) R := by
  obtain ⟨s, r, rfl, hr⟩ := h
  have hr' : r ≤ R * 4503599627370496 := hr
  have hsw : FloatKind.f64.format.signWeight = 9223372036854775808 := sw64
  have hx : FloatKind.f64.format.word s r < 2 ^ 64 := by
    unfold Format.word
    rw [hsw]
    cases s <;> simp <;> omega
  have hm := neg_mod .f64 (FloatKind.f64.format.word s r)
  rw [rung_word _ s (by rw [hsw]; omega)] at hm
  have hlt : Op.negFloat .f64 (FloatKind.f64.format.word s r) < 2 ^ 64 := by
    unfold Op.negFloat
    exact Nat.xor_lt_two_pow hx (by decide)
  obtain ⟨r', h1, h2⟩ := word_of FloatKind.f64.format (x := Op.negFloat .f64 (FloatKind.f64.format.word s r)) (by rw [hsw]; exact hlt)
  generalize Op.negFloat .f64 (FloatKind.f64.format.word s r) = y at *
  refine ⟨_, r', h2, ?_⟩
  rw [h2, rung_word _ _ h1] at hm
  rw [hm]
  exact hr
theorem sinF_up {x : Nat} (h : SinW x) : Up .f64 (sinF x) 1116 := by
  unfold sinF
  split
  · exact neg_up h.v.up (by omega)
  · exact h.v.up
end Go.Proofs.Ytamgekijihpgkaa
