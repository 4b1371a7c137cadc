/- The program's point of the circle is nearly that of the series. Plain. -/
import Derived.Test.YtamgekijihpgkaaQe
namespace Go.Proofs.Ytamgekijihpgkaa
open Go.RowKit Ieee

theorem A_lip' {x y : Rat} (hx : ab x ≤ 52 / 100) (he : ab (y - x) ≤ 1 / 1000000000) : ab (sA y - sA x) ≤ aN := by
  have h := A_lip hx he
  rw [show x + (y - x) = y by grind] at h
  exact h
/-- The sine of what is nearly y. -/
theorem sin_ap {x : Nat} {y : Rat} (hx : Ap .f64 x y (1 / 1000000000)) (h0 : 0 ≤ rv .f64 x) (h1 : rv .f64 x ≤ 1 / 4) (hy : ab y ≤ 52 / 100) : Ap .f64 (sinF x) (sA y) (3 * aN) := by
  have S := sin_near hx.1 h0 h1
  have L := A_lip' hy hx.2
  obtain ⟨l1, l2⟩ := ab_both L
  exact S.to (by grind) (by grind)
theorem sA_small {x : Rat} (h0 : -1 / 100 ≤ x) (h1 : x ≤ 26 / 100) : ab (sA x) ≤ 3 := A_bd (by apply ab_le <;> grind)
theorem ph3_near {j c s : Nat} {f : Rat} (hj : j ≤ 4) (hc : Ap .f64 c (sA (1 / 4 - f)) (3 * aN)) (hs : Ap .f64 s (sA f) (3 * aN)) (f0 : 0 ≤ f) (f1 : f ≤ 1 / 4) :
    Ap .f32 (ph3 j c s).1 (vC (j : Int) f) (5 * aN) ∧ Ap .f32 (ph3 j c s).2 (vS (j : Int) f) (5 * aN) := by
  obtain ⟨e0, e1⟩ := ep64
  obtain ⟨g0, g1⟩ := ep32
  have ha : aN = 1 / 1000000 := rfl
  have bc := sA_small (x := 1 / 4 - f) (by grind) (by grind)
  have bs := sA_small (x := f) (by grind) (by grind)
  obtain ⟨c1, c2⟩ := ab_both bc
  obtain ⟨s1, s2⟩ := ab_both bs
  rw [ha] at hc hs ⊢
  have NC := (hc.neg 4 (by grind) (by decide +kernel)).2
  have NS := (hs.neg 4 (by grind) (by decide +kernel)).2
  have one : ∀ {x : Nat} {v : Rat}, Ap .f64 x v (31 / 10000000) → ab v ≤ 3 → Ap .f32 (n32 (cn .f64 x)) v (5 * (1 / 1000000)) := fun {x v} h hv => (h.n32 4 (by grind) (by decide +kernel)).2.w (by grind)
  have C := one (hc.w (by grind)) bc
  have S := one (hs.w (by grind)) bs
  have C' := one (NC.w (by grind)) (by rw [ab_neg]; exact bc)
  have S' := one (NS.w (by grind)) (by rw [ab_neg]; exact bs)
  have h5 : j = 0 ∨ j = 1 ∨ j = 2 ∨ j = 3 ∨ j = 4 := by omega
  rcases h5 with rfl | rfl | rfl | rfl | rfl
  · have e : vC ((0 : Nat) : Int) f = sA (1 / 4 - f) ∧ vS ((0 : Nat) : Int) f = sA f := by
      unfold vC vS
      have : iC ((0 : Nat) : Int) = 1 ∧ iS ((0 : Nat) : Int) = 0 := by decide +kernel
      rw [this.1, this.2]
      constructor <;> grind
    rw [e.1, e.2]
    exact ⟨C, S⟩
  · have e : vC ((1 : Nat) : Int) f = -sA f ∧ vS ((1 : Nat) : Int) f = sA (1 / 4 - f) := by
      unfold vC vS
      have : iC ((1 : Nat) : Int) = 0 ∧ iS ((1 : Nat) : Int) = 1 := by decide +kernel
      rw [this.1, this.2]
      constructor <;> grind
    rw [e.1, e.2]
    exact ⟨S', C⟩
  · have e : vC ((2 : Nat) : Int) f = -sA (1 / 4 - f) ∧ vS ((2 : Nat) : Int) f = -sA f := by
      unfold vC vS
      have : iC ((2 : Nat) : Int) = -1 ∧ iS ((2 : Nat) : Int) = 0 := by decide +kernel
      rw [this.1, this.2]
      constructor <;> grind
    rw [e.1, e.2]
    exact ⟨C', S'⟩
  · have e : vC ((3 : Nat) : Int) f = sA f ∧ vS ((3 : Nat) : Int) f = -sA (1 / 4 - f) := by
      unfold vC vS
      have : iC ((3 : Nat) : Int) = 0 ∧ iS ((3 : Nat) : Int) = -1 := by decide +kernel
      rw [this.1, this.2]
      constructor <;> grind
    rw [e.1, e.2]
    exact ⟨S, C'⟩
  · have e : vC ((4 : Nat) : Int) f = sA (1 / 4 - f) ∧ vS ((4 : Nat) : Int) f = sA f := by
      unfold vC vS
      have : iC ((4 : Nat) : Int) = 1 ∧ iS ((4 : Nat) : Int) = 0 := by decide +kernel
      rw [this.1, this.2]
      constructor <;> grind
    rw [e.1, e.2]
    exact ⟨C, S⟩
/-- What the point of the circle at x is. -/
structure PhN (x : Nat) (t : Rat) (E : Rat) (q N : Int) (r e : Rat) : Prop where
  r0 : 0 ≤ r
  r1 : r ≤ 1 / 4
  er : ab e ≤ E
  eq : (q : Rat) / 4 + r = t + (N : Rat) + e
  re : Ap .f32 (phV x).1 (vC q r) (5 * aN)
  im : Ap .f32 (phV x).2 (vS q r) (5 * aN)
theorem phasor_near {x : Nat} (h : isF .f64 x) (hb : ab (rv .f64 x) ≤ 16) (hw : Up .f64 x 1035) : ∃ (q N : Int) (r e : Rat), PhN x (rv .f64 x) (1 / 1000000000000) q N r e := by
  obtain ⟨s, w, hx, hr⟩ := hw
  have hr' : w ≤ 1035 * 4503599627370496 := hr
  have hx' : x = double.word s w := hx
  have hp := phV_small hx' (by omega)
  have fw : FrW x := by rw [hx']; exact frW (by omega)
  obtain ⟨N, F, _⟩ := frF_near h hb
  obtain ⟨j, f, hq, hj, A, f0, f1⟩ := qrt_near F.1 fw.fr
  have hpp : phV x = ph3 j (sinF (fop .sub .f64 kQ f)) (sinF f) := by rw [hp]; unfold ph2; rw [hq]
  obtain ⟨e0, e1⟩ := ep64
  obtain ⟨D, B⟩ := (Ap.exact kQ_val.1 kQ_val.2).sub 1 (Ap.self A.1) (by
    have : ab (1 / 4 - rv .f64 f) ≤ 1 / 4 := by apply ab_le <;> grind
    grind) (by decide +kernel)
  have d0 : 0 ≤ rv .f64 (fop .sub .f64 kQ f) := D.near.pos (by rw [kQ_val.2]; grind)
  have d1 : rv .f64 (fop .sub .f64 kQ f) ≤ 1 / 4 := by
    have hk : fkey .f64 f ≤ fkey .f64 kQ := by
      rcases Int.lt_or_le (fkey .f64 kQ) (fkey .f64 f) with h | h
      · exfalso
        have a : (fkey .f64 kQ : Rat) < (fkey .f64 f : Rat) := Rat.intCast_lt_intCast.2 h
        have b := Rat.mul_lt_mul_of_pos_right a (zpos FloatKind.f64.format.leastPlace)
        have c := kQ_val.2
        unfold rv at c f1
        grind
      · exact h
    have S := sub_key 1021 (x := kQ) (y := f) kQ_key.1 (by obtain ⟨s, m, e, a, b⟩ := A.1; exact ⟨s, m, e, a, by have : FloatKind.f64.format.leastPlace = -1074 := lp64; omega⟩) (by decide) (by
      have k0 : 0 ≤ fkey .f64 f := by
        rcases Int.lt_or_le (fkey .f64 f) 0 with h | h
        · exfalso
          have a : (fkey .f64 f : Rat) < ((0 : Int) : Rat) := Rat.intCast_lt_intCast.2 h
          have b := Rat.mul_lt_mul_of_pos_right a (zpos FloatKind.f64.format.leastPlace)
          have z : ((0 : Int) : Rat) = 0 := rfl
          unfold rv at f0
          grind
        · exact h
      rw [kQ_key.2] at hk ⊢
      rw [show (1021 + 51 : Nat) = 1072 from rfl]
      generalize fkey .f64 f = k at *
      generalize pw 1072 = P at *
      omega)
    have G := S.fr (by omega)
    obtain ⟨_, _, k1⟩ := G.key (by omega)
    have hm : rval double (1021 * 4503599627370496) = pw 1072 := rval_pow' 1020
    rw [hm] at k1
    have a : (fkey .f64 (fop .sub .f64 kQ f) : Rat) ≤ (((pw 1072 : Nat) : Int) : Rat) := Rat.intCast_le_intCast.2 k1
    have b := Rat.mul_le_mul_of_nonneg_right a (Rat.le_of_lt (zpos FloatKind.f64.format.leastPlace))
    have c := kQ_val.2
    unfold rv at c ⊢
    rw [kQ_key.2] at c
    rw [c] at b
    exact b
  have S := sin_ap ((Ap.self A.1).w (show (0 : Rat) ≤ 1 / 1000000000 by decide +kernel)) f0 f1 (by apply ab_le <;> grind)
  have C := sin_ap (B.w (show (0 : Rat) + 0 + ep .f64 * (1 + 1) ≤ 1 / 1000000000 by grind)) d0 d1 (by apply ab_le <;> grind)
  obtain ⟨p1, p2⟩ := ph3_near hj C S f0 f1
  obtain ⟨a1, a2⟩ := ab_both A.2
  obtain ⟨b1, b2⟩ := ab_both F.2
  refine ⟨(j : Int), N, rv .f64 f, (j : Rat) / 4 + rv .f64 f - (rv .f64 x + (N : Rat)), f0, f1, by apply ab_le <;> grind, ?_, by rw [hpp]; exact p1, by rw [hpp]; exact p2⟩
  rw [Rat.intCast_natCast]
  grind
end Go.Proofs.Ytamgekijihpgkaa
