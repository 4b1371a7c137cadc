/- Several texts in one: Ql, Qm. -/
import Derived.Test.YtamgekijihpgkaaQe
import Derived.Test.YtamgekijihpgkaaLogW
import Derived.Test.YtamgekijihpgkaaSq
/- The logarithm: halving and doubling are exact. Plain. -/
namespace Go.Proofs.Ytamgekijihpgkaa
open Go.RowKit Ieee

theorem in_read {y lo hi : Nat} (h : In .f64 y lo hi) (h1 : 1 ≤ lo) (h2 : hi < 2046) : ∃ (m : Nat) (e : Int), double.read y = .number false m e ∧ m < 2 ^ 53 ∧ 0 < m ∧ (lo : Int) - 1075 ≤ e ∧ e ≤ (hi : Int) - 1075 := by
  have b1 := h.1
  have b2 := h.2
  rw [binL] at b1 b2
  have d := Nat.div_add_mod y 4503599627370496
  have t := Nat.mod_lt y (show 4503599627370496 > 0 by decide)
  have hr := read64 (a := y / 4503599627370496) (t := y % 4503599627370496) (by omega) (by omega) t
  have hw : double.word false (y / 4503599627370496 * 4503599627370496 + y % 4503599627370496) = y := by
    show y / 4503599627370496 * 4503599627370496 + y % 4503599627370496 = y
    omega
  rw [hw] at hr
  exact ⟨_, _, hr, by omega, by omega, by omega, by omega⟩
theorem log_53 {m : Nat} (h : m < 2 ^ 53) (h0 : 0 < m) : m.log2 ≤ 52 := by
  have := (Nat.log2_lt (by omega : m ≠ 0)).2 h
  omega
theorem zbig : (2 : Rat) ^ (1000 : Int) ≤ (2 : Rat) ^ (bias .f64 : Int) := zle (by decide)
/-- A number times a power of two is exact. -/
theorem pow_mul {m : Nat} {i e : Int} {x : Nat} (hx : x = double.nearest false (m * 2 ^ 52) i) (hm : m < 2 ^ 53) (h0 : 0 < m) (h1 : -1074 ≤ i + 52) (h2 : i + 52 ≤ 900) (he : i + 52 = e) : isF .f64 x ∧ rv .f64 x = (m : Rat) * (2 : Rat) ^ e := by
  rw [nearest_scale (a := 52) (by omega) (log_53 hm h0) (by omega)] at hx
  have hb : (m : Rat) * (2 : Rat) ^ (i + ((52 : Nat) : Int)) ≤ (2 : Rat) ^ (bias .f64 : Int) := by
    have a : (m : Rat) ≤ (2 : Rat) ^ (53 : Int) := by
      rw [znat' (by decide : (0 : Int) ≤ 53)]
      exact Rat.natCast_le_natCast.2 (by have : ((53 : Int)).toNat = 53 := rfl; rw [this]; omega)
    have b := Rat.mul_le_mul_of_nonneg_right a (Rat.le_of_lt (zpos (i + ((52 : Nat) : Int))))
    rw [← zadd] at b
    exact Rat.le_trans b (zle (by show 53 + (i + ((52 : Nat) : Int)) ≤ ((1023 : Nat) : Int); omega))
  obtain ⟨a, b⟩ := write_exact .f64 false m (i + ((52 : Nat) : Int)) hm (by show double.leastPlace ≤ _; rw [lp64]; omega) hb
  have hw : FloatKind.f64.format.write (.number false m (i + ((52 : Nat) : Int))) = x := hx.symm
  rw [hw] at a b
  refine ⟨a, ?_⟩
  rw [b]
  unfold sv
  have : i + ((52 : Nat) : Int) = e := he
  rw [this]
  simp
theorem rv_read {y m : Nat} {e : Int} (h : double.read y = .number false m e) (he : -1074 ≤ e) : isF .f64 y ∧ rv .f64 y = (m : Rat) * (2 : Rat) ^ e := by
  have hf : isF .f64 y := ⟨_, _, _, h, by show double.leastPlace ≤ e; rw [lp64]; exact he⟩
  obtain ⟨s, m', e', a, _, c⟩ := hf.val
  have a' : double.read y = .number s m' e' := a
  rw [h] at a'
  injection a' with a1 a2 a3
  subst a1 a2 a3
  refine ⟨hf, ?_⟩
  rw [c]
  unfold sv
  simp
theorem halve_exact {y lo hi : Nat} (h : In .f64 y lo hi) (h1 : 100 ≤ lo) (h2 : hi < 1900) : isF .f64 y ∧ isF .f64 (fop .quo .f64 y kTwo) ∧ rv .f64 (fop .quo .f64 y kTwo) = rv .f64 y / 2 := by
  obtain ⟨m, e, r, hm, hm0, e1, e2⟩ := in_read h (by omega) (by omega)
  obtain ⟨f, v⟩ := rv_read r (by omega)
  have k2 : kTwo = 4611686018427387904 := by decide +kernel
  rw [k2, half_eq r (log_53 hm hm0) (fun _ => by omega)]
  obtain ⟨r1, r2⟩ := k2_read
  obtain ⟨_, _, q3⟩ := det0 (op := .mul) (k := .f64) (x := 4602678819172646912) (y := y) (d := .number (false ^^ false) (2 ^ 52 * m) (-53 + e)) (by simp only [floatBits, FloatKind.format, Format.mul, r2, r, Datum.product]; rfl) rfl
  have hx : fop .mul .f64 4602678819172646912 y = double.nearest false (m * 2 ^ 52) (-53 + e) := by
    rw [q3, Nat.mul_comm m]
    rfl
  obtain ⟨a, b⟩ := pow_mul hx hm hm0 (by omega) (by omega) (show -53 + e + 52 = e - 1 by omega)
  refine ⟨f, a, ?_⟩
  rw [b, v]
  have : (2 : Rat) ^ e = (2 : Rat) ^ (e - 1) * 2 := by
    have h := zadd (e - 1) 1
    rw [show e - 1 + 1 = e by omega] at h
    rw [h]
    rfl
  rw [this]
  grind
theorem double_exact {y lo hi : Nat} (h : In .f64 y lo hi) (h1 : 100 ≤ lo) (h2 : hi < 1900) : isF .f64 y ∧ isF .f64 (fop .mul .f64 y kTwo) ∧ rv .f64 (fop .mul .f64 y kTwo) = 2 * rv .f64 y := by
  obtain ⟨m, e, r, hm, hm0, e1, e2⟩ := in_read h (by omega) (by omega)
  obtain ⟨f, v⟩ := rv_read r (by omega)
  have k2 : kTwo = 4611686018427387904 := by decide +kernel
  rw [k2]
  obtain ⟨r1, r2⟩ := k2_read
  obtain ⟨_, _, q3⟩ := det0 (op := .mul) (k := .f64) (x := y) (y := 4611686018427387904) (d := .number (false ^^ false) (m * 2 ^ 52) (e + -51)) (by simp only [floatBits, FloatKind.format, Format.mul, r1, r, Datum.product]; rfl) rfl
  have hx : fop .mul .f64 y 4611686018427387904 = double.nearest false (m * 2 ^ 52) (e + -51) := by
    rw [q3]
    rfl
  obtain ⟨a, b⟩ := pow_mul hx hm hm0 (by omega) (by omega) (show e + -51 + 52 = e + 1 by omega)
  refine ⟨f, a, ?_⟩
  rw [b, v]
  have : (2 : Rat) ^ (e + 1) = (2 : Rat) ^ e * 2 := by
    rw [zadd]
    rfl
  rw [this]
  grind
theorem k15_val : isF .f64 k15 ∧ rv .f64 k15 = 3 / 2 := constF (by decide +kernel)
theorem k075_val : isF .f64 k075 ∧ rv .f64 k075 = 3 / 4 := constF (by decide +kernel)
theorem geB_val {x c : Nat} (h : isF .f64 x) (hc : isF .f64 c) : geB x c = decide (rv .f64 c ≤ rv .f64 x) := by
  unfold geB
  obtain ⟨o1, o2, o3⟩ := order_val h hc
  rcases rtri (rv .f64 x) (rv .f64 c) with t | t | t
  · rw [o1.2 t, decide_eq_false (by grind)]; rfl
  · rw [o3.2 t, decide_eq_true (by grind)]; rfl
  · rw [o2.2 t, decide_eq_true (by grind)]; rfl
theorem ltB_val {x c : Nat} (h : isF .f64 x) (hc : isF .f64 c) : ltB x c = decide (rv .f64 x < rv .f64 c) := by
  unfold ltB
  obtain ⟨o1, o2, o3⟩ := order_val h hc
  rcases rtri (rv .f64 x) (rv .f64 c) with t | t | t
  · rw [o1.2 t, decide_eq_true t]; rfl
  · rw [o3.2 t, decide_eq_false (by grind)]; rfl
  · rw [o2.2 t, decide_eq_false (by grind)]; rfl
theorem z_succ (e : Int) : (2 : Rat) ^ (e + 1) = 2 * (2 : Rat) ^ e := by
  rw [zadd]
  have : (2 : Rat) ^ (1 : Int) = 2 := rfl
  rw [this]; grind
theorem halves_val {x : Nat} (h : In .f64 x 874 1151) : ∃ (z j : Nat), halves 200 x 0 = (z, j) ∧ j ≤ 128 ∧ In .f64 z 874 1024 ∧ rv .f64 z < 3 / 2 ∧ rv .f64 x = rv .f64 z * (2 : Rat) ^ (j : Int) ∧ (0 < j → 3 / 4 ≤ rv .f64 z) := by
  have go : ∀ n j y, n + j = 128 → In .f64 y 874 (1151 - j) → halves 200 x 0 = halves (200 - j) y j → rv .f64 x = rv .f64 y * (2 : Rat) ^ (j : Int) → (0 < j → 3 / 4 ≤ rv .f64 y) →
      ∃ (z j : Nat), halves 200 x 0 = (z, j) ∧ j ≤ 128 ∧ In .f64 z 874 1024 ∧ rv .f64 z < 3 / 2 ∧ rv .f64 x = rv .f64 z * (2 : Rat) ^ (j : Int) ∧ (0 < j → 3 / 4 ≤ rv .f64 z) := by
    intro n
    induction n with
    | zero =>
      intro j y hj I E V P
      obtain ⟨f, g, q⟩ := halve_exact I (by omega) (by omega)
      cases hg : geB y k15
      · refine ⟨y, j, by rw [E, halves_end hg], by omega, halv_stop I hg, ?_, V, P⟩
        rw [geB_val f k15_val.1, k15_val.2] at hg
        have := of_decide_eq_false hg
        grind
      · obtain ⟨h1, _⟩ := halv_step I (by omega) hg
        omega
    | succ n ih =>
      intro j y hj I E V P
      obtain ⟨f, g, q⟩ := halve_exact I (by omega) (by omega)
      cases hg : geB y k15
      · refine ⟨y, j, by rw [E, halves_end hg], by omega, halv_stop I hg, ?_, V, P⟩
        rw [geB_val f k15_val.1, k15_val.2] at hg
        have := of_decide_eq_false hg
        grind
      · obtain ⟨h1, h2, h3⟩ := halv_step I (by omega) hg
        refine ih (j + 1) _ (by omega) h2 (by rw [E, h3]) ?_ ?_
        · rw [V, q]
          have : ((j + 1 : Nat) : Int) = (j : Int) + 1 := by push_cast; rfl
          rw [this, z_succ]
          grind
        · intro _
          rw [geB_val f k15_val.1, k15_val.2] at hg
          have := of_decide_eq_true hg
          rw [q]
          grind
  refine go 128 0 x rfl h rfl ?_ (fun h => absurd h (by decide))
  have : (2 : Rat) ^ ((0 : Nat) : Int) = 1 := rfl
  rw [this]; grind
theorem doubles_val {y : Nat} (h : In .f64 y 874 1024) (hy : rv .f64 y < 3 / 2) : ∃ (z i : Nat), doubles 200 y 0 = (z, i) ∧ i ≤ 149 ∧ In .f64 z 1022 1024 ∧ 3 / 4 ≤ rv .f64 z ∧ rv .f64 z < 3 / 2 ∧ rv .f64 z = rv .f64 y * (2 : Rat) ^ (i : Int) ∧ (3 / 4 ≤ rv .f64 y → i = 0) := by
  have go : ∀ n i u, n + i = 149 → In .f64 u (874 + i) 1024 → doubles 200 y 0 = doubles (200 - i) u i → rv .f64 u = rv .f64 y * (2 : Rat) ^ (i : Int) → rv .f64 u < 3 / 2 → (3 / 4 ≤ rv .f64 y → i = 0) →
      ∃ (z i : Nat), doubles 200 y 0 = (z, i) ∧ i ≤ 149 ∧ In .f64 z 1022 1024 ∧ 3 / 4 ≤ rv .f64 z ∧ rv .f64 z < 3 / 2 ∧ rv .f64 z = rv .f64 y * (2 : Rat) ^ (i : Int) ∧ (3 / 4 ≤ rv .f64 y → i = 0) := by
    intro n
    induction n with
    | zero =>
      intro i u hi I E V B P
      obtain ⟨f, g, q⟩ := double_exact I (by omega) (by omega)
      cases hg : ltB u k075
      · refine ⟨u, i, by rw [E, doubles_end hg], by omega, doub_stop I hg, ?_, B, V, P⟩
        rw [ltB_val f k075_val.1, k075_val.2] at hg
        have := of_decide_eq_false hg
        grind
      · obtain ⟨h1, _⟩ := doub_step I (by omega) hg
        omega
    | succ n ih =>
      intro i u hi I E V B P
      obtain ⟨f, g, q⟩ := double_exact I (by omega) (by omega)
      cases hg : ltB u k075
      · refine ⟨u, i, by rw [E, doubles_end hg], by omega, doub_stop I hg, ?_, B, V, P⟩
        rw [ltB_val f k075_val.1, k075_val.2] at hg
        have := of_decide_eq_false hg
        grind
      · obtain ⟨h1, h2, h3⟩ := doub_step I (by omega) hg
        rw [ltB_val f k075_val.1, k075_val.2] at hg
        have hlt := of_decide_eq_true hg
        refine ih (i + 1) _ (by omega) h2 (by rw [E, h3]) ?_ (by rw [q]; grind) ?_
        · rw [q, V]
          have : ((i + 1 : Nat) : Int) = (i : Int) + 1 := by push_cast; rfl
          rw [this, z_succ]
          grind
        · intro hp
          exfalso
          have hi0 := P hp
          subst hi0
          have : (2 : Rat) ^ ((0 : Nat) : Int) = 1 := rfl
          rw [this] at V
          grind
  refine go 149 0 y rfl h rfl ?_ hy (fun _ => rfl)
  have : (2 : Rat) ^ ((0 : Nat) : Int) = 1 := rfl
  rw [this]; grind
/-- The number brought near to 1, and how many times two was taken off. -/
theorem lnW_val {x : Nat} (h : In .f64 x 874 1151) : ∃ (z : Nat) (e : Int), lnW x = lnZ z e ∧ isF .f64 z ∧ 3 / 4 ≤ rv .f64 z ∧ rv .f64 z ≤ 3 / 2 ∧ rv .f64 x = rv .f64 z * (2 : Rat) ^ e ∧ -150 ≤ e ∧ e < 150 := by
  obtain ⟨y, j, h1, h2, h3, h4, h5, h6⟩ := halves_val h
  obtain ⟨z, i, g1, g2, g3, g4, g5, g6, g7⟩ := doubles_val h3 h4
  have hz := (halve_exact g3 (by omega) (by omega)).1
  refine ⟨z, (j : Int) - (i : Int), by unfold lnW; rw [h1]; dsimp only; rw [g1], hz, g4, Rat.le_of_lt g5, ?_, by omega, by omega⟩
  rw [h5, g6, Int.sub_eq_add_neg, zadd, Rat.mul_assoc]
  have e0 : (2 : Rat) ^ (i : Int) * (2 : Rat) ^ (-(i : Int)) = 1 := by
    rw [← zadd, Int.add_right_neg, Rat.zpow_zero]
  generalize (2 : Rat) ^ (i : Int) = p at *
  generalize (2 : Rat) ^ (-(i : Int)) = q at *
  generalize (2 : Rat) ^ (j : Int) = r at *
  have : p * (r * q) = r := by
    have : p * (r * q) = r * (p * q) := by grind
    rw [this, e0]; grind
  rw [this]
end Go.Proofs.Ytamgekijihpgkaa

/- The logarithm is nearly that over the rational numbers, which grows. Plain. -/
namespace Go.Proofs.Ytamgekijihpgkaa
open Go.RowKit Ieee

theorem Ap.div {k : FloatKind} {x y : Nat} {v w E F : Rat} (q B : Rat) (hx : Ap k x v E) (hy : Ap k y w F) (hw : 1 + F ≤ w) (hq : q * w = v) (h : ab q + (E + ab q * F) ≤ B) (hB : 2 * B ≤ 1000000) : Ap k (fop .quo k x y) q (E + ab q * F + ep k * (B + 1)) := by
  obtain ⟨y1, y2⟩ := ab_both hy.2
  have hY : 1 ≤ rv k y := by grind
  have hY0 : rv k y ≠ 0 := by grind
  obtain ⟨i, hi⟩ : ∃ i, i = 1 / rv k y := ⟨_, rfl⟩
  have i0 : 0 ≤ i := by rw [hi]; exact div_nn hY (by decide)
  have iy : i * rv k y = 1 := by rw [hi]; exact Rat.div_mul_cancel hY0
  have i1 : i ≤ 1 := by
    have := Rat.mul_le_mul_of_nonneg_left hY i0
    grind
  have t : ab (rv k x * i - q) ≤ E + ab q * F := by
    have e : rv k x * i - q = ((rv k x - v) - q * (rv k y - w)) * i := by
      have : q = q * (i * rv k y) := by rw [iy]; grind
      have h2 : ((rv k x - v) - q * (rv k y - w)) * i = rv k x * i - q * (i * rv k y) + (q * w - v) * i := by grind
      rw [h2, iy, hq]
      grind
    rw [e]
    have a : ab ((rv k x - v) - q * (rv k y - w)) ≤ E + ab q * F := by
      have m := mul_sm (show ab q ≤ ab q from Rat.le_refl) hy.2
      obtain ⟨m1, m2⟩ := ab_both m
      obtain ⟨x1, x2⟩ := ab_both hx.2
      apply ab_le <;> grind
    have b := mul_sm a (show ab i ≤ 1 by rw [ab_of_nonneg i0]; exact i1)
    grind
  have hb := ab_of_near t
  have O := op_quo hx.1 hy.1 (v := rv k x * i) hY0 (by rw [Rat.mul_assoc, iy, Rat.mul_one]) (by have := big_k k; grind)
  refine ⟨O.fin, ?_⟩
  have e := (ep_le (k := k) (show ab (rv k x * i) ≤ B by grind)).2
  have u := O.up
  have l := O.lo
  obtain ⟨t1, t2⟩ := ab_both t
  apply ab_le <;> grind
def kc (t : Nat) : Rat := rv .f64 (fop .quo .f64 kOne (kI (25 - 2 * (t : Int))))
theorem kc_all : ∀ t : Nat, t < 13 → (isFb .f64 (fop .quo .f64 kOne (kI (25 - 2 * (t : Int)))) && decide (0 ≤ kc t) && decide (kc t ≤ 1)) = true := by decide +kernel
theorem kc_ok {t : Nat} (h : t < 13) : isF .f64 (fop .quo .f64 kOne (kI (25 - 2 * (t : Int)))) ∧ 0 ≤ kc t ∧ kc t ≤ 1 := by
  have a := kc_all t h
  simp only [Bool.and_eq_true, decide_eq_true_eq] at a
  exact ⟨isF_of a.1.1, a.1.2, a.2⟩
def qR (u : Rat) : Nat → Rat
  | 0 => 0
  | t + 1 => kc t + u * qR u t
theorem qR_bd {u : Rat} (h0 : 0 ≤ u) (h1 : u ≤ 1 / 20) : ∀ t, t ≤ 13 → 0 ≤ qR u t ∧ qR u t ≤ 11 / 10
  | 0, _ => ⟨(by decide : (0 : Rat) ≤ 0), (by decide +kernel : (0 : Rat) ≤ 11 / 10)⟩
  | t + 1, ht => by
    obtain ⟨a, b⟩ := qR_bd h0 h1 t (by omega)
    obtain ⟨_, c, d⟩ := kc_ok (t := t) (by omega)
    have p0 := Rat.mul_nonneg h0 a
    have p1 := Rat.mul_le_mul_of_nonneg_right h1 a
    show 0 ≤ kc t + u * qR u t ∧ kc t + u * qR u t ≤ 11 / 10
    grind
theorem qR_mono {u v : Rat} (h0 : 0 ≤ u) (h : u ≤ v) (h1 : v ≤ 1 / 20) : ∀ t, t ≤ 13 → qR u t ≤ qR v t
  | 0, _ => Rat.le_refl
  | t + 1, ht => by
    have ih := qR_mono h0 h h1 t (by omega)
    obtain ⟨a, _⟩ := qR_bd h0 (by grind : u ≤ 1 / 20) t (by omega)
    have p1 := Rat.mul_le_mul_of_nonneg_right h a
    have p2 := Rat.mul_le_mul_of_nonneg_left ih (show 0 ≤ v by grind)
    show kc t + u * qR u t ≤ kc t + v * qR v t
    grind
theorem qs_near {u : Nat} {U : Rat} (hu : Ap .f64 u U (1 / 10000000000000)) (h0 : 0 ≤ U) (h1 : U ≤ 1 / 20) : ∀ t, t ≤ 13 → Ap .f64 (qs u t) (qR U t) (1 / 1000000000000)
  | 0, _ => (Ap.exact (isF_of (by decide +kernel)) (by decide +kernel) : Ap .f64 (cn .f64 0) 0 0).w (by decide +kernel)
  | t + 1, ht => by
    have P := qs_near hu h0 h1 t (by omega)
    obtain ⟨b1, b2⟩ := qR_bd h0 h1 t (by omega)
    obtain ⟨c1, c2, c3⟩ := kc_ok (t := t) (by omega)
    have M := (hu.mul (1 / 20) (11 / 10) 1 P (by rw [ab_of_nonneg h0]; exact h1) (by rw [ab_of_nonneg b1]; exact b2) (by decide +kernel) (by decide +kernel)).2
    have M' : Ap .f64 (fop .mul .f64 u (qs u t)) (U * qR U t) (2 / 10000000000000) := M.w (by decide +kernel)
    obtain ⟨d1, d2⟩ := qR_bd h0 h1 (t + 1) ht
    have e : qR U (t + 1) = kc t + U * qR U t := rfl
    have A := ((Ap.self c1).add 2 M' (by
      show ab (kc t + U * qR U t) + _ ≤ 2
      rw [← e, ab_of_nonneg d1]; grind) (by decide +kernel)).2
    rw [e]
    exact A.w (by decide +kernel)
/-- The logarithm from 3/4 to 3/2. -/
def sQ (z : Rat) : Rat := (z - 1) / (z + 1)
def hQ (s : Rat) : Rat := s * qR (s * s) 13
def lnT (z : Rat) : Rat := 2 * hQ (sQ z)
def l2 : Rat := rv .f64 kLn2
theorem l2_ok : isF .f64 kLn2 ∧ (69 / 100 ≤ l2 ∧ l2 ≤ 7 / 10) := ⟨isF_of (by decide +kernel), by decide +kernel⟩
theorem kOne_val : isF .f64 kOne ∧ rv .f64 kOne = 1 := constF (by decide +kernel)
theorem kTwo_val : isF .f64 kTwo ∧ rv .f64 kTwo = 2 := constF (by decide +kernel)
theorem sQ_bd {z : Rat} (h0 : 3 / 4 ≤ z) (h1 : z ≤ 3 / 2) : ab (sQ z) ≤ 1 / 5 ∧ sQ z * (z + 1) = z - 1 := by
  have hne : z + 1 ≠ 0 := by grind
  have hq : sQ z * (z + 1) = z - 1 := Rat.div_mul_cancel hne
  refine ⟨?_, hq⟩
  generalize sQ z = s at *
  apply ab_le
  · rcases rtri s (1 / 5) with h | h | h
    · exact Rat.le_of_lt h
    · rw [h]; exact Rat.le_refl
    · exfalso
      have := Rat.mul_lt_mul_of_pos_right h (show 0 < z + 1 by grind)
      grind
  · rcases rtri (-s) (1 / 5) with h | h | h
    · exact Rat.le_of_lt h
    · rw [h]; exact Rat.le_refl
    · exfalso
      have := Rat.mul_lt_mul_of_pos_right h (show 0 < z + 1 by grind)
      grind
theorem sq_bd {s : Rat} (h : ab s ≤ 1 / 5) : 0 ≤ s * s ∧ s * s ≤ 1 / 20 := by
  have a := mul_sm h h
  obtain ⟨b, _⟩ := ab_both a
  refine ⟨?_, by grind⟩
  rcases @Rat.le_total 0 s with h | h
  · exact Rat.mul_nonneg h h
  · have := Rat.mul_nonneg (show 0 ≤ -s by grind) (show 0 ≤ -s by grind)
    grind
theorem hQ_bd {s : Rat} (h : ab s ≤ 1 / 5) : ab (hQ s) ≤ 22 / 100 := by
  obtain ⟨a, b⟩ := sq_bd h
  obtain ⟨c, d⟩ := qR_bd a b 13 (by omega)
  have := mul_sm h (show ab (qR (s * s) 13) ≤ 11 / 10 by rw [ab_of_nonneg c]; exact d)
  unfold hQ
  grind
theorem lnZ_near {z : Nat} {e : Int} (hz : isF .f64 z) (h0 : 3 / 4 ≤ rv .f64 z) (h1 : rv .f64 z ≤ 3 / 2) (e0 : -20 ≤ e) (e1 : e ≤ 20) : Ap .f64 (lnZ z e) (lnT (rv .f64 z) + (e : Rat) * l2) (1 / 10000000000) := by
  obtain ⟨t1, t2⟩ := sQ_bd h0 h1
  obtain ⟨s, hs⟩ : ∃ s, s = sQ (rv .f64 z) := ⟨_, rfl⟩
  rw [← hs] at t1 t2
  have N := ((Ap.self hz).sub 1 (Ap.exact kOne_val.1 kOne_val.2) (by
    have : ab (rv .f64 z - 1) ≤ 1 / 2 := by apply ab_le <;> grind
    grind) (by decide +kernel)).2
  have D := ((Ap.self hz).add 3 (Ap.exact kOne_val.1 kOne_val.2) (by
    have : ab (rv .f64 z + 1) ≤ 5 / 2 := by apply ab_le <;> grind
    grind) (by decide +kernel)).2
  have N' : Ap .f64 (fop .sub .f64 z kOne) (rv .f64 z - 1) (1 / 100000000000000) := N.w (by decide +kernel)
  have D' : Ap .f64 (fop .add .f64 z kOne) (rv .f64 z + 1) (1 / 100000000000000) := D.w (by decide +kernel)
  have Q := N'.div s 1 D' (by grind) t2 (by grind) (by decide +kernel)
  have e64 := ep64
  have Q' : Ap .f64 (fop .quo .f64 (fop .sub .f64 z kOne) (fop .add .f64 z kOne)) s (2 / 100000000000000) := Q.w (by grind)
  obtain ⟨w, hw⟩ : ∃ w, w = fop .quo .f64 (fop .sub .f64 z kOne) (fop .add .f64 z kOne) := ⟨_, rfl⟩
  rw [← hw] at Q'
  have U := (Q'.mul (1 / 5) (1 / 5) 1 Q' t1 t1 (by decide +kernel) (by decide +kernel)).2
  obtain ⟨u0, u1⟩ := sq_bd t1
  have P := qs_near (U.w (by decide +kernel)) u0 u1 13 (by omega)
  obtain ⟨c, d⟩ := qR_bd u0 u1 13 (by omega)
  have H := (Q'.mul (1 / 5) (11 / 10) 1 P t1 (by rw [ab_of_nonneg c]; exact d) (by decide +kernel) (by decide +kernel)).2
  have hb := hQ_bd t1
  have H' : Ap .f64 (fop .mul .f64 w (qs (fop .mul .f64 w w) 13)) (hQ s) (1 / 1000000000000) := H.w (by decide +kernel)
  have T := ((Ap.exact kTwo_val.1 kTwo_val.2).mul 2 (22 / 100) 1 H' (by decide +kernel) hb (by decide +kernel) (by decide +kernel)).2
  have T' : Ap .f64 (fop .mul .f64 kTwo (fop .mul .f64 w (qs (fop .mul .f64 w w) 13))) (2 * hQ s) (3 / 1000000000000) := T.w (by decide +kernel)
  obtain ⟨i1, i2⟩ := ofInt_val (n := e) (by omega)
  have hkI : kI e = floatOfInt .f64 e := i1.cn
  have he : ab (e : Rat) ≤ 20 := by
    have a : (e : Rat) ≤ ((20 : Int) : Rat) := Rat.intCast_le_intCast.2 e1
    have b : ((-20 : Int) : Rat) ≤ (e : Rat) := Rat.intCast_le_intCast.2 e0
    have e' : ((20 : Int) : Rat) = 20 := rfl
    have e'' : ((-20 : Int) : Rat) = -20 := rfl
    rw [e'] at a
    rw [e''] at b
    apply ab_le <;> grind
  obtain ⟨m1, m2, m3⟩ := l2_ok
  have hl : ab l2 ≤ 7 / 10 := by rw [ab_of_nonneg (by grind)]; exact m3
  have L := ((Ap.exact i1 i2).mul 20 (7 / 10) 15 (Ap.self m1) he hl (by decide +kernel) (by decide +kernel)).2
  have L' : Ap .f64 (fop .mul .f64 (kI e) kLn2) ((e : Rat) * l2) (1 / 10000000000000) := by rw [hkI]; exact L.w (by decide +kernel)
  have hel := mul_sm he hl
  have A := (T'.add 16 L' (by
    have t := ab_add (2 * hQ s) ((e : Rat) * l2)
    have t2 : ab (2 * hQ s) ≤ 44 / 100 := by
      obtain ⟨x, y⟩ := ab_both hb
      apply ab_le <;> grind
    grind) (by decide +kernel)).2
  have hln : lnT (rv .f64 z) = 2 * hQ s := by unfold lnT; rw [← hs]
  have hlz : lnZ z e = fop .add .f64 (fop .mul .f64 kTwo (fop .mul .f64 w (qs (fop .mul .f64 w w) 13))) (fop .mul .f64 (kI e) kLn2) := by unfold lnZ; rw [hw]
  rw [hln, hlz]
  exact A.w (by decide +kernel)
/-! It grows. -/
theorem hQ_mono {s t : Rat} (hs : ab s ≤ 1 / 5) (ht : ab t ≤ 1 / 5) (h : s ≤ t) : hQ s ≤ hQ t := by
  have pos : ∀ {s t : Rat}, 0 ≤ s → ab t ≤ 1 / 5 → s ≤ t → hQ s ≤ hQ t := fun {s t} h0 ht h => by
    have hs : ab s ≤ 1 / 5 := by
      rw [ab_of_nonneg h0]
      rw [ab_of_nonneg (by grind)] at ht
      grind
    obtain ⟨a, b⟩ := sq_bd hs
    obtain ⟨a', b'⟩ := sq_bd ht
    have m1 := Rat.mul_le_mul_of_nonneg_right h h0
    have m2 := Rat.mul_le_mul_of_nonneg_left h (show 0 ≤ t by grind)
    have q := qR_mono a (show s * s ≤ t * t by grind) b' 13 (by omega)
    obtain ⟨c, _⟩ := qR_bd a b 13 (by omega)
    have n1 := Rat.mul_le_mul_of_nonneg_right h c
    have n2 := Rat.mul_le_mul_of_nonneg_left q (show 0 ≤ t by grind)
    unfold hQ
    grind
  have odd : ∀ s, hQ (-s) = -hQ s := fun s => by
    unfold hQ
    have : -s * -s = s * s := by grind
    rw [this]; grind
  have nn : ∀ {s : Rat}, 0 ≤ s → ab s ≤ 1 / 5 → 0 ≤ hQ s := fun {s} h0 hs => by
    obtain ⟨a, b⟩ := sq_bd hs
    obtain ⟨c, _⟩ := qR_bd a b 13 (by omega)
    exact Rat.mul_nonneg h0 c
  rcases @Rat.le_total 0 s with h0 | h0
  · exact pos h0 ht h
  · rcases @Rat.le_total 0 t with h1 | h1
    · have a := nn h1 ht
      have b := nn (s := -s) (by grind) (by rw [ab_neg]; exact hs)
      rw [odd] at b
      grind
    · have := pos (s := -t) (t := -s) (by grind) (by rw [ab_neg]; exact hs) (by grind)
      rw [odd, odd] at this
      grind
theorem sQ_mono {z w : Rat} (h0 : 3 / 4 ≤ z) (h : z ≤ w) (h1 : w ≤ 3 / 2) : sQ z ≤ sQ w := by
  obtain ⟨_, a⟩ := sQ_bd h0 (by grind : z ≤ 3 / 2)
  obtain ⟨_, b⟩ := sQ_bd (by grind : 3 / 4 ≤ w) h1
  rcases @Rat.le_total (sQ z) (sQ w) with hh | hh
  · exact hh
  · -- the product of the parts
    generalize sQ z = s at *
    generalize sQ w = t at *
    rcases rtri t s with hl | he | hg
    · exfalso
      have p : 0 < (s - t) * ((z + 1) * (w + 1)) := Rat.mul_pos (by grind) (Rat.mul_pos (by grind) (by grind))
      have e : (s - t) * ((z + 1) * (w + 1)) = s * (z + 1) * (w + 1) - t * (w + 1) * (z + 1) := by grind
      rw [e, a, b] at p
      grind
    · rw [he]; exact Rat.le_refl
    · exact Rat.le_of_lt hg
theorem lnT_mono {z w : Rat} (h0 : 3 / 4 ≤ z) (h : z ≤ w) (h1 : w ≤ 3 / 2) : lnT z ≤ lnT w := by
  have a := hQ_mono (sQ_bd h0 (by grind)).1 (sQ_bd (by grind) h1).1 (sQ_mono h0 h h1)
  unfold lnT
  grind
theorem l_edge : decide (lnT (3 / 2) ≤ lnT (3 / 4) + l2 + 1 / 1000000000) && decide (lnT (3 / 4) + l2 ≤ lnT (3 / 2) + 1 / 1000000000) = true := by decide +kernel
theorem ln_mono {c p z w : Rat} {d e : Int} (hc : c = z * (2 : Rat) ^ d) (hp : p = w * (2 : Rat) ^ e) (z0 : 3 / 4 ≤ z) (z1 : z ≤ 3 / 2) (w0 : 3 / 4 ≤ w) (w1 : w ≤ 3 / 2) (h : c ≤ p) : lnT z + (d : Rat) * l2 ≤ lnT w + (e : Rat) * l2 + 1 / 1000000000 := by
  have L := l_edge
  rw [Bool.and_eq_true, decide_eq_true_eq, decide_eq_true_eq] at L
  obtain ⟨L1, L2⟩ := L
  obtain ⟨_, m2, m3⟩ := l2_ok
  have pe := zpos e
  rw [hc, hp] at h
  rcases Int.lt_trichotomy d e with hde | hde | hde
  · have a := lnT_mono z0 z1 (by grind : (3 : Rat) / 2 ≤ 3 / 2)
    have b := lnT_mono (by grind : (3 : Rat) / 4 ≤ 3 / 4) w0 w1
    have hd : (d : Rat) + 1 ≤ (e : Rat) := by
      have : ((d + 1 : Int) : Rat) ≤ (e : Rat) := Rat.intCast_le_intCast.2 (by omega)
      rw [Rat.intCast_add] at this
      exact this
    have m := Rat.mul_le_mul_of_nonneg_right hd (show 0 ≤ l2 by grind)
    grind
  · subst hde
    have hzw : z ≤ w := by
      rcases @Rat.le_total z w with hh | hh
      · exact hh
      · rcases rtri w z with hl | he | hg
        · exfalso
          have := Rat.mul_lt_mul_of_pos_right hl pe
          grind
        · rw [he]; exact Rat.le_refl
        · exact Rat.le_of_lt hg
    have a := lnT_mono z0 hzw w1
    grind
  · -- only at the edge
    have hs : (2 : Rat) ^ d = (2 : Rat) ^ (d - e) * (2 : Rat) ^ e := by
      rw [← zadd]; congr 1; omega
    have h2 : (2 : Rat) ≤ (2 : Rat) ^ (d - e) := by
      have := zle (show (1 : Int) ≤ d - e by omega)
      have e1 : (2 : Rat) ^ (1 : Int) = 2 := rfl
      rw [e1] at this
      exact this
    rw [hs, ← Rat.mul_assoc] at h
    have hzw : z * (2 : Rat) ^ (d - e) ≤ w := by
      rcases @Rat.le_total (z * (2 : Rat) ^ (d - e)) w with hh | hh
      · exact hh
      · rcases rtri w (z * (2 : Rat) ^ (d - e)) with hl | he | hg
        · exfalso
          have := Rat.mul_lt_mul_of_pos_right hl pe
          grind
        · rw [he]; exact Rat.le_refl
        · exact Rat.le_of_lt hg
    have k1 := Rat.mul_le_mul_of_nonneg_left h2 (show 0 ≤ z by grind)
    have hz : z = 3 / 4 := by grind
    have hw : w = 3 / 2 := by grind
    have hd : d = e + 1 := by
      rcases Int.lt_or_le (e + 1) d with hl | hl
      · exfalso
        have := zle (show (2 : Int) ≤ d - e by omega)
        have e1 : (2 : Rat) ^ (2 : Int) = 4 := rfl
        rw [e1] at this
        have := Rat.mul_le_mul_of_nonneg_left this (show 0 ≤ z by grind)
        grind
      · omega
    rw [hd, hz, hw, Rat.intCast_add]
    have e1 : ((1 : Int) : Rat) = 1 := rfl
    rw [e1]
    grind
end Go.Proofs.Ytamgekijihpgkaa
