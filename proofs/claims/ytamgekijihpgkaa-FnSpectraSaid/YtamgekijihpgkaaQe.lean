/- The program's sine and its point of the circle are nearly those of the series. Plain. -/
import Derived.Test.YtamgekijihpgkaaMc
import Derived.Test.YtamgekijihpgkaaPhC
namespace Go.Proofs.Ytamgekijihpgkaa
open Go.RowKit Ieee

theorem fin_isF {x : Nat} (h : Fin64 x) : isF .f64 x := by
  obtain ⟨s, m, e, a, b⟩ := h
  exact ⟨s, m, e, a, by show double.leastPlace ≤ e; rw [lp64]; exact b⟩
theorem ofInt_val {n : Int} (h : n.natAbs < 4503599627370496) : isF .f64 (floatOfInt .f64 n) ∧ rv .f64 (floatOfInt .f64 n) = (n : Rat) := by
  obtain ⟨a, b⟩ := ofInt_key h
  refine ⟨fin_isF a, ?_⟩
  unfold rv
  rw [b]
  have e : FloatKind.f64.format.leastPlace = -1074 := lp64
  rw [e, pw_eq, Rat.intCast_mul, Rat.intCast_natCast, ← znat 1074, Rat.mul_assoc, ← zadd]
  have : ((1074 : Nat) : Int) + -1074 = 0 := by decide
  rw [this, Rat.zpow_zero, Rat.mul_one]
theorem rtri (a b : Rat) : a < b ∨ a = b ∨ b < a := by
  by_cases h : a < b
  · exact .inl h
  · by_cases h2 : a = b
    · exact .inr (.inl h2)
    · exact .inr (.inr (by grind))
theorem lt0_val {x : Nat} (h : isF .f64 x) : lt0 x = decide (rv .f64 x < 0) := by
  have z : isF .f64 0 ∧ rv .f64 0 = 0 := constF (by decide +kernel)
  unfold lt0
  rw [h.cn, z.1.cn]
  have o := (order_val h z.1).1
  rw [z.2] at o
  cases hd : decide (rv .f64 x < 0)
  · have hn := of_decide_eq_false hd
    cases ho : ford .f64 x 0 with
    | none => rfl
    | some c =>
      cases c with
      | lt => exact absurd (o.1 ho) hn
      | eq => rfl
      | gt => rfl
  · rw [o.2 (of_decide_eq_true hd)]; rfl
theorem gtC_val {x c : Nat} (h : isF .f64 x) (hc : isF .f64 c) : gtC x c = decide (rv .f64 c < rv .f64 x) := by
  unfold gtC
  rw [h.cn, hc.cn]
  have o := (order_val h hc).2.1
  cases hd : decide (rv .f64 c < rv .f64 x)
  · have hn := of_decide_eq_false hd
    cases ho : ford .f64 x c with
    | none => rfl
    | some c =>
      cases c with
      | lt => rfl
      | eq => rfl
      | gt => exact absurd (o.1 ho) hn
  · rw [o.2 (of_decide_eq_true hd)]; rfl
theorem geC_val {x c : Nat} (h : isF .f64 x) (hc : isF .f64 c) : geC x c = decide (rv .f64 c ≤ rv .f64 x) := by
  unfold geC
  rw [h.cn, hc.cn]
  obtain ⟨o1, o2, o3⟩ := order_val h hc
  rcases rtri (rv .f64 x) (rv .f64 c) with t | t | t
  · rw [o1.2 t, decide_eq_false (by grind)]; rfl
  · rw [o3.2 t, decide_eq_true (by grind)]; rfl
  · rw [o2.2 t, decide_eq_true (by grind)]; rfl
theorem kQ_val : isF .f64 kQ ∧ rv .f64 kQ = 1 / 4 := constF (by decide +kernel)
theorem kH_val : isF .f64 kH ∧ rv .f64 kH = 1 / 2 := constF (by decide +kernel)
theorem tau_val : isF .f64 k2P ∧ rv .f64 k2P = tau := ⟨isF_of (by decide +kernel), rfl⟩
theorem tau_bd : 6 ≤ tau ∧ tau ≤ 63 / 10 := by decide +kernel
theorem sK_val : ∀ j : Nat, j < 8 → (isFb .f64 (sD (8 - (j : Int))) && decide (rv .f64 (sD (8 - (j : Int))) = sK j)) = true := by decide +kernel
theorem sK_ge : ∀ j : Nat, j < 8 → 6 ≤ sK j := by decide +kernel
/-- The whole part: of numbers up to 16. -/
theorem frI_of {x : Nat} (h : isF .f64 x) (hb : ab (rv .f64 x) ≤ 16) : ∃ n : Int, (double.read x).toInt .zero = some n ∧ n.natAbs ≤ 16 ∧ ab (rv .f64 x - (n : Rat)) ≤ 1 ∧ (rv .f64 x < 1 → 0 ≤ rv .f64 x → n = 0) := by
  obtain ⟨s, m, e, hr, he, hv⟩ := h.val
  have he' : -1074 ≤ e := by have : FloatKind.f64.format.leastPlace = -1074 := lp64; omega
  obtain ⟨K, h1, h2, h3⟩ := trunc_key hr he'
  have hp := zpos (-1074)
  have hs : ((m <<< (e + 1074).toNat : Nat) : Rat) * (2 : Rat) ^ (-1074 : Int) = (m : Rat) * (2 : Rat) ^ e := by
    rw [Nat.shiftLeft_eq, Rat.natCast_mul, ← znat, Rat.mul_assoc, ← zadd]
    congr 2
    omega
  have hP : ((pw 1074 : Nat) : Rat) * (2 : Rat) ^ (-1074 : Int) = 1 := by
    rw [pw_eq, ← znat 1074, ← zadd]
    have : ((1074 : Nat) : Int) + -1074 = 0 := by decide
    rw [this, Rat.zpow_zero]
  have g2 : (K : Rat) ≤ (m : Rat) * (2 : Rat) ^ e := by
    rw [← hs]
    have a : ((K * pw 1074 : Nat) : Rat) ≤ ((m <<< (e + 1074).toNat : Nat) : Rat) := Rat.natCast_le_natCast.2 h2
    have b := Rat.mul_le_mul_of_nonneg_right a (Rat.le_of_lt hp)
    rw [Rat.natCast_mul, Rat.mul_assoc, hP, Rat.mul_one] at b
    exact b
  have g3 : (m : Rat) * (2 : Rat) ^ e ≤ (K : Rat) + 1 := by
    rw [← hs]
    have a : ((m <<< (e + 1074).toNat : Nat) : Rat) ≤ (((K + 1) * pw 1074 : Nat) : Rat) := Rat.natCast_le_natCast.2 (Nat.le_of_lt h3)
    have b := Rat.mul_le_mul_of_nonneg_right a (Rat.le_of_lt hp)
    rw [Rat.natCast_mul (K + 1), Rat.mul_assoc, hP, Rat.mul_one, Rat.natCast_add] at b
    exact b
  have g4 : 0 ≤ (m : Rat) * (2 : Rat) ^ e := Rat.mul_nonneg (by exact_mod_cast Nat.zero_le m) (Rat.le_of_lt (zpos e))
  have hab : ab (rv .f64 x) = (m : Rat) * (2 : Rat) ^ e := by rw [hv, ab_sv]
  have hK : K ≤ 16 := by
    rw [hab] at hb
    have : (K : Rat) ≤ ((16 : Nat) : Rat) := Rat.le_trans g2 hb
    exact Rat.natCast_le_natCast.1 this
  refine ⟨_, h1, by cases s <;> simp <;> omega, ?_, ?_⟩
  · rw [hv]
    unfold sv
    obtain ⟨M, hM⟩ : ∃ M, M = (m : Rat) * (2 : Rat) ^ e := ⟨_, rfl⟩
    rw [← hM] at g2 g3 ⊢
    cases s
    · simp only [Bool.false_eq_true, if_false, Rat.intCast_natCast]
      apply ab_le <;> grind
    · simp only [if_true, Rat.intCast_neg, Rat.intCast_natCast]
      apply ab_le <;> grind
  · intro x1 x0
    have hM1 : (m : Rat) * (2 : Rat) ^ e < 1 := by rw [← hab, ab_of_nonneg x0]; exact x1
    have : (K : Rat) < ((1 : Nat) : Rat) := by
      have e1 : ((1 : Nat) : Rat) = 1 := rfl
      rw [e1]; grind
    have hK0 : K < 1 := Rat.natCast_lt_natCast.1 this
    have : K = 0 := by omega
    subst this
    cases s <;> rfl
/-- Turns without whole ones. -/
theorem frF_near {x : Nat} (h : isF .f64 x) (hb : ab (rv .f64 x) ≤ 16) : ∃ N : Int, Ap .f64 (frF x) (rv .f64 x + N) (1 / 100000000000000) ∧ (rv .f64 x < 1 → 0 ≤ rv .f64 x → N = 0) := by
  obtain ⟨n, h1, h2, h3, h4⟩ := frI_of h hb
  have hi : frI x = n := by unfold frI; rw [h1]; rfl
  obtain ⟨o1, o2⟩ := ofInt_val (n := n) (by omega)
  obtain ⟨e0, e1⟩ := ep64
  obtain ⟨S, A⟩ := (Ap.self h).sub 2 (Ap.exact o1 o2) (by grind) (by decide +kernel)
  have hA : Ap .f64 (frA x) (rv .f64 x - n) (1 / 200000000000000) := by
    unfold frA
    rw [hi]
    exact A.w (by grind)
  have hl := lt0_val hA.1
  cases hlt : lt0 (frA x)
  · refine ⟨-n, ?_, fun a b => by rw [h4 a b]; rfl⟩
    have : frF x = frA x := by unfold frF; rw [hlt]; rfl
    rw [this]
    have e : rv .f64 x + ((-n : Int) : Rat) = rv .f64 x - n := by rw [Rat.intCast_neg]; grind
    rw [e]
    exact hA.w (by decide +kernel)
  · have hneg : rv .f64 (frA x) < 0 := by rw [hl] at hlt; exact of_decide_eq_true hlt
    have : frF x = fop .add .f64 (frA x) kO := by unfold frF; rw [hlt]; rfl
    obtain ⟨k1, k2⟩ := kO_val
    obtain ⟨a1, a2⟩ := ab_both hA.2
    obtain ⟨c1, c2⟩ := ab_both h3
    obtain ⟨_, B⟩ := hA.add 3 (Ap.exact k1 k2) (by
      have : ab (rv .f64 x - n + 1) ≤ 2 := by apply ab_le <;> grind
      grind) (by decide +kernel)
    refine ⟨-n + 1, ?_, fun a b => ?_⟩
    · rw [this]
      have e : rv .f64 x + ((-n + 1 : Int) : Rat) = rv .f64 x - n + 1 := by push_cast; grind
      rw [e]
      exact B.w (by grind)
    · exfalso
      have hn := h4 a b
      have hf : frA x = fop .sub .f64 x (floatOfInt .f64 n) := by unfold frA; rw [hi]
      have p := S.near.pos (by rw [o2, hn]; have : ((0 : Int) : Rat) = 0 := rfl; grind)
      rw [← hf] at p
      grind
/-- The series, from 0 to 5 halves. -/
theorem sR_bd {u : Rat} (h0 : 0 ≤ u) (h1 : u ≤ 5 / 2) : ∀ j, j ≤ 8 → 0 ≤ sR u j ∧ sR u j ≤ 1
  | 0, _ => ⟨(by decide : (0 : Rat) ≤ 1), (by decide : (1 : Rat) ≤ 1)⟩
  | j + 1, hj => by
    obtain ⟨a, b⟩ := sR_bd h0 h1 j (by omega)
    have hk := sK_ge j (by omega)
    have p0 := Rat.mul_nonneg h0 a
    have p1 := Rat.mul_le_mul_of_nonneg_right h1 a
    have d0 := div_nn (k := sK j) (by grind) p0
    have d1 : u * sR u j / sK j ≤ 1 := by
      rw [Rat.div_def]
      have hi : (sK j)⁻¹ * sK j = 1 := Rat.inv_mul_cancel _ (by grind)
      have hinn : 0 ≤ (sK j)⁻¹ := by
        have := div_nn (k := sK j) (a := 1) (by grind) (by decide +kernel)
        rw [Rat.div_def, Rat.one_mul] at this
        exact this
      have := Rat.mul_le_mul_of_nonneg_left hk hinn
      have q : u * sR u j ≤ 6 := by grind
      have := Rat.mul_le_mul_of_nonneg_right q hinn
      grind
    show 0 ≤ 1 - u * sR u j / sK j ∧ 1 - u * sR u j / sK j ≤ 1
    grind
theorem sP_near {u : Nat} {U : Rat} (hu : Ap .f64 u U (1 / 100000000000)) (h0 : 0 ≤ U) (h1 : U ≤ 5 / 2) : ∀ j, j ≤ 8 → Ap .f64 (sP u j) (sR U j) (1 / 100000000000)
  | 0, _ => (Ap.exact kO_val.1 kO_val.2).w (by decide +kernel)
  | j + 1, hj => by
    have P := sP_near hu h0 h1 j (by omega)
    obtain ⟨b1, b2⟩ := sR_bd h0 h1 j (by omega)
    obtain ⟨d1, d2⟩ := constF (sK_val j (by omega))
    have hk := sK_ge j (by omega)
    obtain ⟨e0, e1⟩ := ep64
    have M := (hu.mul (5 / 2) 1 3 P (by rw [ab_of_nonneg h0]; exact h1) (by rw [ab_of_nonneg b1]; exact b2) (by decide +kernel) (by decide +kernel)).2
    have M' : Ap .f64 (fop .mul .f64 u (sP u j)) (U * sR U j) (36 / 1000000000000) := M.w (by grind)
    have p0 := Rat.mul_nonneg h0 b1
    have p1 := Rat.mul_le_mul_of_nonneg_right h1 b1
    have Q := (M'.quo 3 d1 d2 (by grind) (by rw [ab_of_nonneg p0]; grind) (by decide +kernel)).2
    have t : (36 / 1000000000000 : Rat) / sK j ≤ 6 / 1000000000000 := by
      rw [Rat.div_def]
      have hi : (sK j)⁻¹ * sK j = 1 := Rat.inv_mul_cancel _ (by grind)
      have hinn : 0 ≤ (sK j)⁻¹ := by
        have := div_nn (k := sK j) (a := 1) (by grind) (by decide +kernel)
        rw [Rat.div_def, Rat.one_mul] at this
        exact this
      have := Rat.mul_le_mul_of_nonneg_left hk hinn
      grind
    have Q' : Ap .f64 (fop .quo .f64 (fop .mul .f64 u (sP u j)) (sD (8 - (j : Int)))) (U * sR U j / sK j) (7 / 1000000000000) := Q.w (by grind)
    obtain ⟨r0, r1⟩ := sR_bd h0 h1 (j + 1) hj
    have hr : sR U (j + 1) = 1 - U * sR U j / sK j := rfl
    rw [hr] at r0 r1
    have A := ((Ap.exact kO_val.1 kO_val.2).sub 2 Q' (by rw [ab_of_nonneg r0]; grind) (by decide +kernel)).2
    rw [hr]
    exact A.w (by grind)
/-- The sine, up to a quarter. -/
theorem sin_near {y : Nat} (hy : isF .f64 y) (h0 : 0 ≤ rv .f64 y) (h1 : rv .f64 y ≤ 1 / 4) : Ap .f64 (sinF y) (sA (rv .f64 y)) (2 * aN) := by
  obtain ⟨e0, e1⟩ := ep64
  obtain ⟨N, F, hN⟩ := frF_near hy (by rw [ab_of_nonneg h0]; grind)
  have hN0 := hN (by grind) h0
  subst hN0
  have hF : Ap .f64 (frF y) (rv .f64 y) (1 / 100000000000000) := by
    have e : rv .f64 y + ((0 : Int) : Rat) = rv .f64 y := by have : ((0 : Int) : Rat) = 0 := rfl; grind
    rw [e] at F
    exact F
  obtain ⟨f1, f2⟩ := ab_both hF.2
  have hge : geC (frF y) kH = false := by
    rw [geC_val hF.1 kH_val.1, kH_val.2]
    exact decide_eq_false (by grind)
  have s1 : sin1 y = frF y := by unfold sin1; rw [hge]; rfl
  have s2 : Ap .f64 (sin2 y) (rv .f64 y) (1 / 10000000000000) := by
    unfold sin2
    rw [s1]
    cases hg : gtC (frF y) kQ
    · exact hF.w (by decide +kernel)
    · rw [gtC_val hF.1 kQ_val.1, kQ_val.2] at hg
      have hgt := of_decide_eq_true hg
      have A := ((Ap.exact kH_val.1 kH_val.2).sub 1 hF (by
        have : ab (1 / 2 - rv .f64 y) ≤ 1 / 2 := by apply ab_le <;> grind
        grind) (by decide +kernel)).2
      exact A.to (by grind) (by grind)
  obtain ⟨t1, t2⟩ := tau_bd
  have Z := (s2.mul (1 / 4) (63 / 10) 2 (Ap.exact tau_val.1 tau_val.2) (by rw [ab_of_nonneg h0]; exact h1) (by rw [ab_of_nonneg (by grind)]; exact t2) (by decide +kernel) (by decide +kernel)).2
  obtain ⟨z, hz⟩ : ∃ z, z = rv .f64 y * tau := ⟨_, rfl⟩
  rw [← hz] at Z
  have z0 : 0 ≤ z := by rw [hz]; exact Rat.mul_nonneg h0 (by grind)
  have z1 : z ≤ 158 / 100 := by
    have a := Rat.mul_le_mul_of_nonneg_right h1 (show 0 ≤ tau by grind)
    rw [hz]; grind
  have hZ : Ap .f64 (sinZ y) z (1 / 1000000000000) := by unfold sinZ; exact Z.w (by grind)
  have U := (hZ.mul (158 / 100) (158 / 100) 3 hZ (by rw [ab_of_nonneg z0]; exact z1) (by rw [ab_of_nonneg z0]; exact z1) (by decide +kernel) (by decide +kernel)).2
  have hU : Ap .f64 (sinU y) (z * z) (1 / 100000000000) := by unfold sinU; exact U.w (by grind)
  have zz0 := Rat.mul_nonneg z0 z0
  have zz1 : z * z ≤ 5 / 2 := by
    have a := Rat.mul_le_mul_of_nonneg_right z1 z0
    grind
  have P := sP_near hU zz0 zz1 8 (by omega)
  obtain ⟨r0, r1⟩ := sR_bd zz0 zz1 8 (by omega)
  have V := (hZ.mul (158 / 100) 1 2 P (by rw [ab_of_nonneg z0]; exact z1) (by rw [ab_of_nonneg r0]; exact r1) (by decide +kernel) (by decide +kernel)).2
  have hf : sinF y = sinV y := by unfold sinF; rw [hge]; rfl
  have hA : sA (rv .f64 y) = z * sR (z * z) 8 := by
    unfold sA
    rw [hz, Rat.mul_comm tau]
  rw [hf, hA]
  unfold sinV
  have ha : aN = 1 / 1000000 := rfl
  rw [ha]
  exact V.w (by grind)
/-- The quarters taken off. -/
theorem qrt_near {f0 : Nat} (hi : isF .f64 f0) (h : Fr (1023 * 4503599627370496) f0) : ∃ (j f : Nat), qrt 4 f0 = (j, f) ∧ j ≤ 4 ∧ Ap .f64 f (rv .f64 f0 - (j : Rat) / 4) (1 / 10000000000000) ∧ 0 ≤ rv .f64 f ∧ rv .f64 f ≤ 1 / 4 := by
  obtain ⟨e0, e1⟩ := ep64
  have nn : ∀ {f j}, Qv f0 f j → isF .f64 f → 0 ≤ rv .f64 f := fun {f j} Q hf => by
    obtain ⟨_, k0, _⟩ := Q.fr.key (by have := Rof_le (4 - j) (by omega); omega)
    unfold rv
    have a : ((0 : Int) : Rat) ≤ (fkey .f64 f : Rat) := Rat.intCast_le_intCast.2 k0
    exact Rat.mul_nonneg a (Rat.le_of_lt (zpos _))
  have stop : ∀ {f j}, Qv f0 f j → Ap .f64 f (rv .f64 f0 - (j : Rat) / 4) (1 / 10000000000000) → geC f kQ = false → ∃ (j f : Nat), qrt 4 f0 = (j, f) ∧ j ≤ 4 ∧ Ap .f64 f (rv .f64 f0 - (j : Rat) / 4) (1 / 10000000000000) ∧ 0 ≤ rv .f64 f ∧ rv .f64 f ≤ 1 / 4 := fun {f j} Q A hg => by
    obtain ⟨a, _⟩ := Q.stop hg
    rw [geC_val A.1 kQ_val.1, kQ_val.2] at hg
    have := of_decide_eq_false hg
    exact ⟨j, f, a, Q.le, A, nn Q A.1, by grind⟩
  have go : ∀ n (j f : Nat), n + j = 4 → Qv f0 f j → Ap .f64 f (rv .f64 f0 - (j : Rat) / 4) ((j : Rat) / 100000000000000) → ∃ (j f : Nat), qrt 4 f0 = (j, f) ∧ j ≤ 4 ∧ Ap .f64 f (rv .f64 f0 - (j : Rat) / 4) (1 / 10000000000000) ∧ 0 ≤ rv .f64 f ∧ rv .f64 f ≤ 1 / 4 := by
    intro n
    induction n with
    | zero =>
      intro j f hj Q A
      have hj4 : j = 4 := by omega
      cases hg : geC f kQ
      · exact stop Q (A.w (by rw [hj4]; decide +kernel)) hg
      · obtain ⟨h4, _⟩ := Q.go hg
        omega
    | succ n ih =>
      intro j f hj Q A
      have hjr : (j : Rat) ≤ ((4 : Nat) : Rat) := Rat.natCast_le_natCast.2 (by omega)
      have e4 : ((4 : Nat) : Rat) = 4 := rfl
      rw [e4] at hjr
      have hj0 : (0 : Rat) ≤ (j : Rat) := by exact_mod_cast Nat.zero_le j
      cases hg : geC f kQ
      · exact stop Q (A.w (by grind)) hg
      · obtain ⟨_, _, _, Q'⟩ := Q.go hg
        have hv : rv .f64 f ≤ 2 := by
          obtain ⟨_, _, k1⟩ := Q.fr.key (by have := Rof_le (4 - j) (by omega); omega)
          have hm : rval double (Rof (4 - j)) ≤ rval double (1023 * 4503599627370496) := rval_le (f := double) (Rof_le (4 - j) (by omega))
          rw [rvalR4] at hm
          have k2 : fkey .f64 f ≤ ((pw 1074 : Nat) : Int) := by omega
          have a : (fkey .f64 f : Rat) ≤ (((pw 1074 : Nat) : Int) : Rat) := Rat.intCast_le_intCast.2 k2
          have b := Rat.mul_le_mul_of_nonneg_right a (Rat.le_of_lt (zpos (-1074)))
          rw [Rat.intCast_natCast, pw_eq, ← znat 1074, ← zadd] at b
          have : ((1074 : Nat) : Int) + -1074 = 0 := by decide
          rw [this, Rat.zpow_zero] at b
          have e : FloatKind.f64.format.leastPlace = -1074 := lp64
          unfold rv
          rw [e]
          grind
        have h0 := nn Q A.1
        have hj' : ((j + 1 : Nat) : Rat) = (j : Rat) + 1 := by rw [Rat.natCast_add]; rfl
        obtain ⟨a1, a2⟩ := ab_both A.2
        have S := (A.sub 4 (Ap.exact kQ_val.1 kQ_val.2) (by
          have : ab (rv .f64 f0 - (j : Rat) / 4 - 1 / 4) ≤ 3 := by apply ab_le <;> grind
          grind) (by decide +kernel)).2
        refine ih (j + 1) _ (by omega) Q' ?_
        rw [hj']
        have e : rv .f64 f0 - ((j : Rat) + 1) / 4 = rv .f64 f0 - (j : Rat) / 4 - 1 / 4 := by grind
        rw [e]
        exact S.w (by grind)
  refine go 4 0 f0 rfl (Qv.start h) ?_
  have e0 : ((0 : Nat) : Rat) = 0 := rfl
  rw [e0]
  have e : rv .f64 f0 - 0 / 4 = rv .f64 f0 := by grind
  rw [e]
  exact (Ap.self hi).w (by decide +kernel)
end Go.Proofs.Ytamgekijihpgkaa
