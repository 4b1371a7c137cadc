/- Several texts in one: Qj, Qk. -/
import Derived.Test.YtamgekijihpgkaaMe
/- The powers of a drawn line. Plain. -/
namespace Go.Proofs.Ytamgekijihpgkaa
open Go.RowKit Ieee

/-- The turns back, as the program reckons them. -/
def ngT (n m : Nat) : Nat := Op.negFloat .f64 (fop .quo .f64 (floatOfInt .f64 (m : Int)) (floatOfInt .f64 (n : Int)))
def rF (n l : Nat) (xs : Nat → Nat) : Nat → Nat
  | 0 => 0
  | i + 1 => fop .add .f32 (rF n l xs i) (fop .mul .f32 (phV (ngT n (i * l))).1 (xs i))
def iF (n l : Nat) (xs : Nat → Nat) : Nat → Nat
  | 0 => 0
  | i + 1 => fop .add .f32 (iF n l xs i) (fop .mul .f32 (phV (ngT n (i * l))).2 (xs i))
def symB (n j : Nat) : Bool := (cI n ((n - j) % n) == cI n j) && (sI n ((n - j) % n) == -sI n j)
theorem sym_all : ∀ b, b < 6 → ∀ j, j < 2 * b + 9 → symB (2 * b + 9) j = true := by decide +kernel
theorem sym_ok {n j b : Nat} (hn : n = 2 * b + 9) (hb : b < 6) (hj : j < n) : cT n ((n - j) % n) = cT n j ∧ sT n ((n - j) % n) = -sT n j := by
  have h := sym_all b hb j (by omega)
  rw [← hn] at h
  unfold symB at h
  simp only [Bool.and_eq_true, beq_iff_eq] at h
  have e1 : ∀ j, cT n j = (cI n j : Rat) / 100000000 := fun _ => rfl
  have e2 : ∀ j, sT n j = (sI n j : Rat) / 100000000 := fun _ => rfl
  rw [e1, e1, e2, e2, h.1, h.2, Rat.intCast_neg]
  exact ⟨rfl, by grind⟩
theorem neg_val {x R : Nat} (h : Up .f64 x R) (hR : R ≤ 2046) : rv .f64 (Op.negFloat .f64 x) = -rv .f64 x ∧ isF .f64 (Op.negFloat .f64 x) := by
  obtain ⟨s, r, hx, hr⟩ := h
  have hr' : r ≤ R * 4503599627370496 := hr
  have hx' : x = double.word s r := hx
  have hw : Op.negFloat .f64 x = double.word (!s) r := by
    rw [hx']
    exact neg_word .f64 s (by show r < double.signWeight; rw [sw64]; omega)
  have hlt : r < 2047 * 4503599627370496 := by omega
  refine ⟨?_, by rw [hw]; exact fin_isF (fin_word _ hlt)⟩
  unfold rv
  rw [hw, hx', key_word _ hlt, key_word _ hlt]
  generalize rval double r = z
  cases s
  · simp only [Bool.not_false, if_true, Bool.false_eq_true, if_false, Rat.intCast_neg]
    grind
  · simp only [Bool.not_true, if_true, Bool.false_eq_true, if_false, Rat.intCast_neg]
    grind
theorem a_zero : sA 0 = 0 := by decide +kernel
theorem a_quarter : ab (sA (1 / 4) - 1) ≤ aN := by decide +kernel
theorem v_zero : vC 0 0 = sA (1 / 4) ∧ vS 0 0 = 0 := by
  have i0 : iC 0 = 1 ∧ iS 0 = 0 := by decide +kernel
  have e : (1 : Rat) / 4 - 0 = 1 / 4 := by grind
  unfold vC vS
  rw [i0.1, i0.2, a_zero, e]
  constructor <;> grind
/-- The points of the circle, backwards. -/
theorem neg_near {n m b : Nat} (hn : n = 2 * b + 9) (hb : b < 6) (hm : m ≤ 200) (hmn : (m : Rat) / (n : Rat) ≤ 10) : Ap .f32 (phV (ngT n m)).1 (cT n (m % n)) (11 * aN) ∧ Ap .f32 (phV (ngT n m)).2 (-sT n (m % n)) (11 * aN) := by
  have hn1 : (1 : Rat) ≤ (n : Rat) := by
    have : ((1 : Nat) : Rat) ≤ (n : Rat) := Rat.natCast_le_natCast.2 (by omega)
    exact this
  have hm0 : (0 : Rat) ≤ (m : Rat) := by exact_mod_cast Nat.zero_le m
  have hm2 : (m : Rat) ≤ 200 := by
    have : (m : Rat) ≤ ((200 : Nat) : Rat) := Rat.natCast_le_natCast.2 hm
    exact this
  have hq0 := div_nn hn1 hm0
  obtain ⟨i1, i2⟩ := ofInt_val (n := (m : Int)) (by omega)
  obtain ⟨j1, j2⟩ := ofInt_val (n := (n : Int)) (by omega)
  rw [Rat.intCast_natCast] at i2 j2
  have Q := ((Ap.exact i1 i2).quo 200 j1 j2 hn1 (by rw [ab_of_nonneg hm0]; grind) (by decide +kernel)).2
  have e4 : (0 : Rat) / (n : Rat) = 0 := by rw [Rat.div_def]; grind
  rw [e4] at Q
  have Q' : Ap .f64 (fop .quo .f64 (floatOfInt .f64 (m : Int)) (floatOfInt .f64 (n : Int))) ((m : Rat) / (n : Rat)) (1 / 1000000000000) := Q.w (by decide +kernel)
  obtain ⟨c1, c2⟩ := cnt_tab n (by omega) (by omega)
  have hU : Up .f64 (fop .quo .f64 (floatOfInt .f64 (m : Int)) (floatOfInt .f64 (n : Int))) 1034 := up_quo (R := 1034) (int_up (by omega) (by omega)) ⟨false, _, (word_f _ _).symm, c1, by
    have hI : FloatKind.f64.format.infRung = 2047 * 4503599627370496 := inf64
    rw [hI]
    generalize floatOfInt .f64 (n : Int) = d at *
    omega⟩ (by decide) (show 1 ≤ 1023 by decide) (by decide) (by rw [bias64]) (by decide)
  obtain ⟨v1, v2⟩ := neg_val hU (by omega)
  have hNU : Up .f64 (ngT n m) 1035 := by
    have := neg_up hU (by omega)
    exact this.weak (by omega)
  obtain ⟨q1, q2⟩ := ab_both Q'.2
  have hv : rv .f64 (ngT n m) = -rv .f64 (fop .quo .f64 (floatOfInt .f64 (m : Int)) (floatOfInt .f64 (n : Int))) := v1
  obtain ⟨q, N, r, e, P⟩ := phasor_near (x := ngT n m) v2 (by rw [hv, ab_neg]; apply ab_le <;> grind) hNU
  have hj : m % n < n := Nat.mod_lt _ (by omega)
  have hj' : (n - m % n) % n < n := Nat.mod_lt _ (by omega)
  have TF := tab_ok hn hb hj'
  obtain ⟨y1, y2⟩ := sym_ok hn hb hj
  obtain ⟨z1, z2⟩ := ab_both P.er
  -- -(m/n) is the rest's other side and whole ones
  have hdm : ∃ M : Int, -((m : Rat) / (n : Rat)) = (((n - m % n) % n : Nat) : Rat) / (n : Rat) + (M : Rat) := by
    have hne : (n : Rat) ≠ 0 := by grind
    have hi : (n : Rat) * (n : Rat)⁻¹ = 1 := Rat.mul_inv_cancel _ hne
    have e1 : ∃ M : Int, -(m : Int) = (((n - m % n) % n : Nat) : Int) + (n : Int) * M := by
      have d := Nat.div_add_mod m n
      rcases Nat.eq_zero_or_pos (m % n) with h | h
      · refine ⟨-((m / n : Nat) : Int), ?_⟩
        rw [h, Nat.sub_zero, Nat.mod_self]
        rw [h] at d
        have d' := congrArg (fun z : Nat => (z : Int)) d
        push_cast at d' ⊢
        rw [Int.mul_neg]
        omega
      · refine ⟨-((m / n : Nat) : Int) - 1, ?_⟩
        rw [Nat.mod_eq_of_lt (by omega)]
        have d' := congrArg (fun z : Nat => (z : Int)) d
        push_cast [Nat.le_of_lt hj] at d' ⊢
        rw [Int.mul_sub, Int.mul_neg]
        omega
    obtain ⟨M, hM⟩ := e1
    refine ⟨M, ?_⟩
    have hM' := congrArg (fun z : Int => (z : Rat)) hM
    rw [Rat.intCast_neg, Rat.intCast_add, Rat.intCast_mul, Rat.intCast_natCast, Rat.intCast_natCast, Rat.intCast_natCast] at hM'
    rw [Rat.div_def, Rat.div_def]
    generalize (((n - m % n) % n : Nat) : Rat) = v at *
    generalize (n : Rat)⁻¹ = w at *
    have e : -((m : Rat) * w) = -(m : Rat) * w := by grind
    rw [e, hM']
    grind
  obtain ⟨M, hM⟩ := hdm
  obtain ⟨ee, hee⟩ : ∃ ee, ee = rv .f64 (ngT n m) - -((m : Rat) / (n : Rat)) + e := ⟨_, rfl⟩
  have K := turn_add (a := 0) (b := tb n ((n - m % n) % n)) (q := q) (N := N + M) (f := 0) (g := tf n ((n - m % n) % n)) (r := r) (e := ee) (by decide) (by decide +kernel) TF.f0 TF.f1 P.r0 P.r1 (by rw [hee, hv]; apply ab_le <;> grind) (by
    have h2 := P.eq
    have z : ((0 : Int) : Rat) = 0 := rfl
    rw [h2, hee, Rat.intCast_add, z]
    unfold tf tb
    rw [Rat.intCast_natCast]
    have h3 : (((n - m % n) % n : Nat) : Rat) / (n : Rat) = -((m : Rat) / (n : Rat)) - (M : Rat) := by rw [hM]; grind
    rw [h3]
    generalize (m : Rat) / (n : Rat) = u
    generalize ((4 * ((n - m % n) % n) / n : Nat) : Rat) = y
    grind)
  rw [v_zero.1, v_zero.2] at K
  obtain ⟨w1, w2⟩ := ab_both K.1
  obtain ⟨w3, w4⟩ := ab_both K.2
  have TC := TF.c
  have TS := TF.s
  rw [y1] at TC
  rw [y2] at TS
  have bc := TF.c1
  have bs := TF.s1
  rw [y1] at bc
  rw [y2, ab_neg] at bs
  obtain ⟨C, hC⟩ : ∃ C, C = vC (tb n ((n - m % n) % n)) (tf n ((n - m % n) % n)) := ⟨_, rfl⟩
  obtain ⟨T, hT⟩ : ∃ C, C = vS (tb n ((n - m % n) % n)) (tf n ((n - m % n) % n)) := ⟨_, rfl⟩
  rw [← hC, ← hT] at w1 w2 w3 w4
  rw [← hC] at TC
  rw [← hT] at TS
  have bC : ab C ≤ 2 := by
    have := ab_of_near TC
    grind
  have bT : ab T ≤ 2 := by
    have := ab_of_near TS
    rw [ab_neg] at this
    grind
  have p1 := mul_sm a_quarter bC
  have p2 := mul_sm a_quarter bT
  have R := P.re
  have I := P.im
  have ha' : aN = 1 / 1000000 := rfl
  rw [ha'] at w1 w2 w3 w4 p1 p2 R I ⊢
  obtain ⟨x1, x2⟩ := ab_both p1
  obtain ⟨x3, x4⟩ := ab_both p2
  obtain ⟨t1, t2⟩ := ab_both TC
  obtain ⟨t3, t4⟩ := ab_both TS
  clear hC hT bC bT bc bs TC TS p1 p2 K TF P Q Q' y1 y2 hM hee z1 z2 v1 v2 hv q1 q2 c1 c2
  exact ⟨R.to (by grind) (by grind), I.to (by grind) (by grind)⟩
end Go.Proofs.Ytamgekijihpgkaa

/- The powers of a drawn line are nearly what they should be. Plain. -/
namespace Go.Proofs.Ytamgekijihpgkaa
open Go.RowKit Ieee

theorem mul_bd_le {n b l i : Nat} (hn : n = 2 * b + 9) (hb : b < 6) (hl2 : l ≤ b + 4) (hi : i < n) : i * l ≤ 200 ∧ ((i * l : Nat) : Rat) / (n : Rat) ≤ 10 := by
  have hn1 : (1 : Rat) ≤ (n : Rat) := by
    have : ((1 : Nat) : Rat) ≤ (n : Rat) := Rat.natCast_le_natCast.2 (by omega)
    exact this
  constructor
  · have : i * l ≤ 18 * 9 := Nat.mul_le_mul (by omega) (by omega)
    omega
  · have h1 : ((i * l : Nat) : Rat) ≤ ((n * 9 : Nat) : Rat) := Rat.natCast_le_natCast.2 (Nat.mul_le_mul (by omega) (by omega))
    rw [Rat.natCast_mul n 9] at h1
    have h9 : ((9 : Nat) : Rat) = 9 := rfl
    rw [h9] at h1
    have hne : (n : Rat) ≠ 0 := by grind
    have hi2 := div_nn hn1 (show (0 : Rat) ≤ 1 by decide)
    have h2 := Rat.mul_le_mul_of_nonneg_right h1 hi2
    have hii : (n : Rat) * (n : Rat)⁻¹ = 1 := Rat.mul_inv_cancel _ hne
    rw [Rat.div_def, Rat.one_mul] at h2
    rw [Rat.div_def]
    generalize ((i * l : Nat) : Rat) * (n : Rat)⁻¹ = z at *
    grind
theorem sum_bd {f : Nat → Rat} {B : Rat} (H : ∀ i, ab (f i) ≤ B) : ∀ n : Nat, ab (sumN f n) ≤ (n : Rat) * B
  | 0 => by show ab 0 ≤ ((0 : Nat) : Rat) * B; have : ((0 : Nat) : Rat) = 0 := rfl; rw [this, ab_zero]; grind
  | n + 1 => by
    have ih := sum_bd H n
    have t := ab_add (sumN f n) (f n)
    have h := H n
    rw [nat_succ]
    show ab (sumN f n + f n) ≤ _
    grind
/-- A sum with coefficients that are nearly g. -/
theorem acc_near {n : Nat} (hn : n ≤ 19) (ph xs : Nat → Nat) (o g : Nat → Rat) (F : Nat → Nat) (hF0 : F 0 = 0) (hF : ∀ i, F (i + 1) = fop .add .f32 (F i) (fop .mul .f32 (ph i) (xs i)))
    (hp : ∀ i, i < n → Ap .f32 (ph i) (g i) (11 / 1000000)) (hx : ∀ i, i < n → Ap .f32 (xs i) (o i) (117 / 1000000)) (hg : ∀ i, ab (g i) ≤ 1) (ho : ∀ i, ab (o i) ≤ 19) :
    ∀ i, i ≤ n → Ap .f32 (F i) (sumN (fun i => o i * g i) i) ((i : Rat) * (38 / 100000))
  | 0, _ => by
    rw [hF0]
    exact (Ap.exact (isF_of (by decide +kernel)) (by decide +kernel) : Ap .f32 0 0 0).w (by show (0 : Rat) ≤ ((0 : Nat) : Rat) * (38 / 100000); decide +kernel)
  | i + 1, hi => by
    have ih := acc_near hn ph xs o g F hF0 hF hp hx hg ho i (by omega)
    have M := ((hp i (by omega)).mul 1 19 21 (hx i (by omega)) (hg i) (ho i) (by decide +kernel) (by decide +kernel)).2
    have e0 : g i * o i = o i * g i := Rat.mul_comm _ _
    rw [e0] at M
    have M' : Ap .f32 (fop .mul .f32 (ph i) (xs i)) (o i * g i) (331 / 1000000) := M.w (by decide +kernel)
    have sb := sum_bd (f := fun i => o i * g i) (B := 19) (fun i => by have := mul_sm (ho i) (hg i); grind) (i + 1)
    have i1 : ((i + 1 : Nat) : Rat) ≤ ((19 : Nat) : Rat) := Rat.natCast_le_natCast.2 (by omega)
    have i0 : (0 : Rat) ≤ (i : Rat) := by exact_mod_cast Nat.zero_le i
    have e19 : ((19 : Nat) : Rat) = 19 := rfl
    rw [nat_succ] at i1 sb ⊢
    rw [e19] at i1
    have A := (ih.add 380 M' (by
      show ab (sumN (fun i => o i * g i) (i + 1)) + _ ≤ 380
      grind) (by decide +kernel)).2
    rw [hF]
    have e := ep32.2
    exact A.w (by grind)
/-- What is summed up. -/
def amp (a n l : Nat) : Rat := wR a l * ((n : Rat) / 2)
structure SumF (a n : Nat) (seed : Int) (l re im : Nat) : Prop where
  re : Ap .f32 re (amp a n l * pC (sd seed l)) (73 / 10000)
  im : Ap .f32 im (amp a n l * pS (sd seed l)) (73 / 10000)
theorem F_near {a b n l : Nat} {seed : Int} (ha : a < 9) (hn : n = 2 * b + 9) (hb : b < 6) (s0 : 0 ≤ seed) (s1 : seed ≤ 2147483647) (hl : 1 ≤ l) (hl2 : l ≤ b + 4) :
    SumF a n seed l (rF n l (fun i => oF (q2 a) seed (n : Int) (b + 4) i) n) (iF n l (fun i => oF (q2 a) seed (n : Int) (b + 4) i) n) := by
  have hK : ((b + 4 : Nat) : Rat) ≤ 9 := by
    have : ((b + 4 : Nat) : Rat) ≤ ((9 : Nat) : Rat) := Rat.natCast_le_natCast.2 (by omega)
    exact this
  have hK0 : (0 : Rat) ≤ ((b + 4 : Nat) : Rat) := by exact_mod_cast Nat.zero_le _
  have hN : (n : Rat) ≤ 19 := by
    have : (n : Rat) ≤ ((19 : Nat) : Rat) := Rat.natCast_le_natCast.2 (by omega)
    exact this
  have hx : ∀ i, i < n → Ap .f32 (oF (q2 a) seed (n : Int) (b + 4) i) (oR a seed n (b + 4) i) (117 / 1000000) := fun i hi => (oF_near ha hn hb s0 s1 hi (b + 4) (by omega)).w (by grind)
  have ho : ∀ i, ab (oR a seed n (b + 4) i) ≤ 19 := fun i => by
    have := oR_bd (seed := seed) ha hn hb i (b + 4) (by omega)
    grind
  have tb1 : ∀ i, ab (cT n (i * l % n)) ≤ 1 ∧ ab (sT n (i * l % n)) ≤ 1 := fun i => by
    have T := tab_ok hn hb (Nat.mod_lt (i * l) (show n > 0 by omega))
    exact ⟨T.c1, T.s1⟩
  have hp : ∀ i, i < n → Ap .f32 (phV (ngT n (i * l))).1 (cT n (i * l % n)) (11 / 1000000) ∧ Ap .f32 (phV (ngT n (i * l))).2 (-sT n (i * l % n)) (11 / 1000000) := fun i hi => by
    obtain ⟨m1, m2⟩ := mul_bd_le (l := l) hn hb hl2 hi
    obtain ⟨p1, p2⟩ := neg_near hn hb m1 m2
    exact ⟨p1.w (by decide +kernel), p2.w (by decide +kernel)⟩
  have R := acc_near (n := n) (by omega) (fun i => (phV (ngT n (i * l))).1) (fun i => oF (q2 a) seed (n : Int) (b + 4) i) (fun i => oR a seed n (b + 4) i) (fun i => cT n (i * l % n)) (rF n l (fun i => oF (q2 a) seed (n : Int) (b + 4) i)) rfl (fun _ => rfl) (fun i hi => (hp i hi).1) hx (fun i => (tb1 i).1) ho n (Nat.le_refl _)
  have I := acc_near (n := n) (by omega) (fun i => (phV (ngT n (i * l))).2) (fun i => oF (q2 a) seed (n : Int) (b + 4) i) (fun i => oR a seed n (b + 4) i) (fun i => -sT n (i * l % n)) (iF n l (fun i => oF (q2 a) seed (n : Int) (b + 4) i)) rfl (fun _ => rfl) (fun i hi => (hp i hi).2) hx (fun i => by rw [ab_neg]; exact (tb1 i).2) ho n (Nat.le_refl _)
  obtain ⟨d1, d2⟩ := d_near (seed := seed) (l := l) ha hn hb hl hl2 (b + 4) (Nat.le_refl _)
  rw [if_pos hl2] at d1 d2
  have eI : sumN (fun i => oR a seed n (b + 4) i * -sT n (i * l % n)) n = -dS a seed n (b + 4) l := by
    have := sumN_lin (fun i => oR a seed n (b + 4) i * -sT n (i * l % n)) (fun _ => 0) (fun i => oR a seed n (b + 4) i * sT n (i * l % n)) (-1) (fun i => by grind) n
    have e0 : ∀ n, sumN (fun _ => (0 : Rat)) n = 0 := fun n => by
      induction n with
      | zero => rfl
      | succ n ih => show sumN (fun _ => (0 : Rat)) n + 0 = 0; rw [ih]; decide +kernel
    rw [this, e0]
    unfold dS
    grind
  rw [eI] at I
  have eR : sumN (fun i => oR a seed n (b + 4) i * cT n (i * l % n)) n = dC a seed n (b + 4) l := rfl
  rw [eR] at R
  obtain ⟨x1, x2⟩ := ab_both d1
  obtain ⟨y1, y2⟩ := ab_both d2
  have eA : amp a n l = wR a l * ((n : Rat) / 2) := rfl
  clear eI eR d1 d2 hx ho tb1 hp
  constructor
  · rw [eA]
    exact R.to (by grind) (by grind)
  · rw [eA]
    exact I.to (by grind) (by grind)
/-- The power, as the program reckons it. -/
def pwF (re im : Nat) : Nat := n32 (cn .f64 (fop .add .f64 (fop .mul .f64 (c64 re) (c64 re)) (fop .mul .f64 (c64 im) (c64 im))))
/-- How far a power may lie from the square of A. -/
def dP (A : Rat) : Rat := 294 / 10000 * A + 2 / 10000
theorem pw_near {re im : Nat} {A C T : Rat} (A0 : 0 ≤ A) (A1 : A ≤ 19 / 2) (hr : Ap .f32 re (A * C) (73 / 10000)) (hi : Ap .f32 im (A * T) (73 / 10000)) (h1 : ab (C * C + T * T - 1) ≤ aN) (hc : ab C ≤ 1001 / 1000) (ht : ab T ≤ 1001 / 1000) :
    nfit (fop .add .f64 (fop .mul .f64 (c64 re) (c64 re)) (fop .mul .f64 (c64 im) (c64 im))) = true ∧ Ap .f32 (pwF re im) (A * A) (dP A) := by
  have mc := mul_sm (show ab A ≤ A by rw [ab_of_nonneg A0]; exact Rat.le_refl) hc
  have mt := mul_sm (show ab A ≤ A by rw [ab_of_nonneg A0]; exact Rat.le_refl) ht
  obtain ⟨V, hV⟩ : ∃ V, V = A * (1001 / 1000) := ⟨_, rfl⟩
  rw [← hV] at mc mt
  have V0 : 0 ≤ V := by grind
  have V1 : V ≤ 96 / 10 := by grind
  have VV := Rat.mul_le_mul_of_nonneg_left V1 V0
  have AA := Rat.mul_le_mul_of_nonneg_left A1 A0
  have X := (hr.c64.mul V V 100 hr.c64 mc mc (by grind) (by decide +kernel)).2
  have Y := (hi.c64.mul V V 100 hi.c64 mt mt (by grind) (by decide +kernel)).2
  obtain ⟨D, hD⟩ : ∃ D : Rat, D = 146 / 10000 * V + 6 / 100000 := ⟨_, rfl⟩
  have e64 := ep64
  have X' : Ap .f64 (fop .mul .f64 (c64 re) (c64 re)) (A * C * (A * C)) D := X.w (by rw [hD]; grind)
  have Y' : Ap .f64 (fop .mul .f64 (c64 im) (c64 im)) (A * T * (A * T)) D := Y.w (by rw [hD]; grind)
  have ev : A * C * (A * C) + A * T * (A * T) = A * A + A * A * (C * C + T * T - 1) := by grind
  have hA2 : ab (A * A) ≤ 9025 / 100 := by rw [ab_of_nonneg (Rat.mul_nonneg A0 A0)]; grind
  have m2 := mul_sm (show ab (A * A) ≤ A * (19 / 2) by rw [ab_of_nonneg (Rat.mul_nonneg A0 A0)]; exact AA) h1
  have ha' : aN = 1 / 1000000 := rfl
  rw [ha'] at m2
  obtain ⟨z1, z2⟩ := ab_both m2
  have hs : ab (A * C * (A * C) + A * T * (A * T)) ≤ 91 := by
    rw [ev]
    have t := ab_add (A * A) (A * A * (C * C + T * T - 1))
    grind
  have S := (X'.add 100 Y' (by rw [hD]; grind) (by decide +kernel)).2
  have S' : Ap .f64 (fop .add .f64 (fop .mul .f64 (c64 re) (c64 re)) (fop .mul .f64 (c64 im) (c64 im))) (A * A) (294 / 10000 * A + 13 / 100000) := S.to (by rw [hD, hV, ev]; clear X Y X' Y' S mc mt hr hi hs m2 h1 hA2; generalize A * A * (C * C + T * T - 1) = q at *; generalize A * A = r at *; grind) (by rw [hD, hV, ev]; clear X Y X' Y' S mc mt hr hi hs m2 h1 hA2; generalize A * A * (C * C + T * T - 1) = q at *; generalize A * A = r at *; grind)
  obtain ⟨n1, N⟩ := S'.n32 96 (by grind) (by decide +kernel)
  refine ⟨n1, ?_⟩
  have e32 := ep32
  unfold pwF dP
  exact N.w (by grind)
end Go.Proofs.Ytamgekijihpgkaa
