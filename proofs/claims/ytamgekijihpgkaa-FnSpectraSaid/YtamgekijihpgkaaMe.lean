/- Several texts in one: Qg, Qh, Qi. -/
import Derived.Test.YtamgekijihpgkaaQf
import Derived.Test.YtamgekijihpgkaaSq
/- Tables of the circle's points; the k-th wave at a place is nearly a cosine's and a sine's share. Plain. -/
namespace Go.Proofs.Ytamgekijihpgkaa
open Go.RowKit Ieee

def cTab : Nat → List Int
  | 9 => [100000000, 76604444, 17364818, -50000000, -93969262, -93969262, -50000000, 17364818, 76604444]
  | 11 => [100000000, 84125353, 41541501, -14231484, -65486073, -95949297, -95949297, -65486073, -14231484, 41541501, 84125353]
  | 13 => [100000000, 88545603, 56806475, 12053668, -35460489, -74851075, -97094182, -97094182, -74851075, -35460489, 12053668, 56806475, 88545603]
  | 15 => [100000000, 91354546, 66913061, 30901699, -10452846, -50000000, -80901699, -97814760, -97814760, -80901699, -50000000, -10452846, 30901699, 66913061, 91354546]
  | 17 => [100000000, 93247223, 73900892, 44573836, 9226836, -27366299, -60263464, -85021714, -98297310, -98297310, -85021714, -60263464, -27366299, 9226836, 44573836, 73900892, 93247223]
  | 19 => [100000000, 94581724, 78914051, 54694816, 24548549, -8257935, -40169542, -67728157, -87947375, -98636130, -98636130, -87947375, -67728157, -40169542, -8257935, 24548549, 54694816, 78914051, 94581724]
  | _ => []
def sTab : Nat → List Int
  | 9 => [0, 64278761, 98480775, 86602540, 34202014, -34202014, -86602540, -98480775, -64278761]
  | 11 => [0, 54064082, 90963200, 98982144, 75574957, 28173256, -28173256, -75574957, -98982144, -90963200, -54064082]
  | 13 => [0, 46472317, 82298387, 99270887, 93501624, 66312266, 23931566, -23931566, -66312266, -93501624, -99270887, -82298387, -46472317]
  | 15 => [0, 40673664, 74314483, 95105652, 99452190, 86602540, 58778525, 20791169, -20791169, -58778525, -86602540, -99452190, -95105652, -74314483, -40673664]
  | 17 => [0, 36124167, 67369564, 89516329, 99573418, 96182564, 79801723, 52643216, 18374952, -18374952, -52643216, -79801723, -96182564, -99573418, -89516329, -67369564, -36124167]
  | 19 => [0, 32469947, 61421271, 83716648, 96940027, 99658449, 91577333, 73572391, 47594739, 16459459, -16459459, -47594739, -73572391, -91577333, -99658449, -96940027, -83716648, -61421271, -32469947]
  | _ => []

def cT (n j : Nat) : Rat := ((cTab n).getD j 0 : Rat) / 100000000
def sT (n j : Nat) : Rat := ((sTab n).getD j 0 : Rat) / 100000000
/-- The quarters of j of n, and what is left. -/
def tb (n j : Nat) : Int := ((4 * j / n : Nat) : Int)
def tf (n j : Nat) : Rat := (j : Rat) / (n : Rat) - ((4 * j / n : Nat) : Rat) / 4
def tabB (n j : Nat) : Bool := decide (0 ≤ tf n j) && decide (tf n j ≤ 1 / 4) && decide (ab (vC (tb n j) (tf n j) - cT n j) ≤ 1 / 10000000) && decide (ab (vS (tb n j) (tf n j) - sT n j) ≤ 1 / 10000000) && decide (ab (cT n j) ≤ 1) && decide (ab (sT n j) ≤ 1)
theorem tab_all : ∀ a, a < 6 → ∀ j, j < 2 * a + 9 → tabB (2 * a + 9) j = true := by decide +kernel
structure TabF (n j : Nat) : Prop where
  f0 : 0 ≤ tf n j
  f1 : tf n j ≤ 1 / 4
  c : ab (vC (tb n j) (tf n j) - cT n j) ≤ 1 / 10000000
  s : ab (vS (tb n j) (tf n j) - sT n j) ≤ 1 / 10000000
  c1 : ab (cT n j) ≤ 1
  s1 : ab (sT n j) ≤ 1
theorem tab_ok {n j a : Nat} (hn : n = 2 * a + 9) (ha : a < 6) (hj : j < n) : TabF n j := by
  subst hn
  have h := tab_all a ha j hj
  unfold tabB at h
  simp only [Bool.and_eq_true, decide_eq_true_eq] at h
  exact ⟨h.1.1.1.1.1, h.1.1.1.1.2, h.1.1.1.2, h.1.1.2, h.1.2, h.2⟩
/-! Phases. -/
def phi (s : Int) : Rat := rv .f32 (drawnF s) / 2
def phA (s : Int) : Int := (4 * phi s).floor
def phF (s : Int) : Rat := phi s - (phA s : Rat) / 4
def pC (s : Int) : Rat := vC (phA s) (phF s)
def pS (s : Int) : Rat := vS (phA s) (phF s)
theorem phF_bd (s : Int) : 0 ≤ phF s ∧ phF s ≤ 1 / 4 := by
  have a := Rat.floor_le (4 * phi s)
  have b := Rat.lt_floor_add_one (4 * phi s)
  rw [Rat.intCast_add] at b
  have e : ((1 : Int) : Rat) = 1 := rfl
  rw [e] at b
  unfold phF phA
  constructor <;> grind
theorem sq_le {x : Rat} (h : x * x ≤ 1002 / 1000) : ab x ≤ 1001 / 1000 := by
  rcases @Rat.le_total (ab x) (1001 / 1000) with h1 | h1
  · exact h1
  · exfalso
    have n := ab_nonneg x
    have a := Rat.mul_le_mul_of_nonneg_right h1 n
    have b := Rat.mul_le_mul_of_nonneg_left h1 (show (0 : Rat) ≤ 1001 / 1000 by decide +kernel)
    have c : ab x * ab x = x * x := by
      rw [← ab_mul]
      unfold ab
      split
      · rfl
      · rename_i h
        exfalso
        have : 0 ≤ x * x := by
          rcases @Rat.le_total 0 x with h | h
          · exact Rat.mul_nonneg h h
          · have := Rat.mul_nonneg (show 0 ≤ -x by grind) (show 0 ≤ -x by grind)
            grind
        exact h this
    grind
theorem sq_nn (x : Rat) : 0 ≤ x * x := by
  rcases @Rat.le_total 0 x with h | h
  · exact Rat.mul_nonneg h h
  · have := Rat.mul_nonneg (show 0 ≤ -x by grind) (show 0 ≤ -x by grind)
    grind
theorem sq_parts {x y : Rat} (h : ab (x * x + y * y - 1) ≤ aN) : ab x ≤ 1001 / 1000 ∧ ab y ≤ 1001 / 1000 := by
  obtain ⟨a, _⟩ := ab_both (Rat.le_trans h (show aN ≤ 1 / 1000 by decide +kernel))
  have c0 := sq_nn x
  have s0 := sq_nn y
  constructor
  · exact sq_le (by grind)
  · exact sq_le (by grind)
theorem ps_one (s : Int) : ab (pC s * pC s + pS s * pS s - 1) ≤ aN ∧ ab (pC s) ≤ 1001 / 1000 ∧ ab (pS s) ≤ 1001 / 1000 := by
  have h := vv_one (a := phA s) (phF_bd s).1 (phF_bd s).2
  obtain ⟨a, b⟩ := sq_parts h
  exact ⟨h, a, b⟩
theorem ofInt_near (k : FloatKind) (n : Int) (h : n.natAbs ≤ 1000000) : Near k (floatOfInt k n) (n : Rat) := by
  have hv : sv (decide (n < 0)) n.natAbs 0 = (n : Rat) := by
    rw [sv_total (decide (n < 0)) n 0 (fun _ => rfl), Rat.zpow_zero, Rat.mul_one]
  have hb : ab (n : Rat) ≤ 1000000 := by
    have e : ((1000000 : Int) : Rat) = 1000000 := rfl
    have a : (n : Rat) ≤ ((1000000 : Int) : Rat) := Rat.intCast_le_intCast.2 (by omega)
    have b : ((-1000000 : Int) : Rat) ≤ (n : Rat) := Rat.intCast_le_intCast.2 (by omega)
    have e' : ((-1000000 : Int) : Rat) = -1000000 := rfl
    rw [e] at a
    rw [e'] at b
    apply ab_le <;> grind
  exact near_write k (decide (n < 0)) n.natAbs 0 hv (Rat.le_trans hb (big_k k))
theorem drawn_near {s : Int} (h0 : 0 ≤ s) (h1 : s ≤ 2147483647) : isF .f32 (drawnF s) ∧ ab (rv .f32 (drawnF s)) ≤ 2 := by
  have N := ofInt_near .f32 (s / 65536 - 16384) (by omega)
  have K : isF .f32 1182793728 ∧ rv .f32 1182793728 = 16384 := constF (by decide +kernel)
  have hz : ab ((s / 65536 - 16384 : Int) : Rat) ≤ 16384 := by
    have e : ((16384 : Int) : Rat) = 16384 := rfl
    have a : ((s / 65536 - 16384 : Int) : Rat) ≤ ((16384 : Int) : Rat) := Rat.intCast_le_intCast.2 (by omega)
    have b : ((-16384 : Int) : Rat) ≤ ((s / 65536 - 16384 : Int) : Rat) := Rat.intCast_le_intCast.2 (by omega)
    have e' : ((-16384 : Int) : Rat) = -16384 := rfl
    rw [e] at a
    rw [e'] at b
    apply ab_le <;> grind
  obtain ⟨g0, g1⟩ := ep32
  have A : Ap .f32 (floatOfInt .f32 (s / 65536 - 16384)) ((s / 65536 - 16384 : Int) : Rat) (0 + ep .f32 * (16384 + 1)) := near_ap N (by rw [show ((s / 65536 - 16384 : Int) : Rat) - ((s / 65536 - 16384 : Int) : Rat) = 0 by grind, ab_zero]; exact Rat.le_refl) (by grind)
  have A' : Ap .f32 (floatOfInt .f32 (s / 65536 - 16384)) ((s / 65536 - 16384 : Int) : Rat) 1 := A.w (by grind)
  have Q := (A'.quo 16385 K.1 K.2 (by decide +kernel) (by grind) (by decide +kernel)).1
  have e : drawnF s = fop .quo .f32 (floatOfInt .f32 (s / 65536 - 16384)) 1182793728 := by
    unfold drawnF
    rw [N.fin.cn, K.1.cn]
  have hq : ab (rv .f32 (floatOfInt .f32 (s / 65536 - 16384)) / 16384) ≤ 11 / 10 := by
    have b := ab_of_near A'.2
    obtain ⟨b1, b2⟩ := ab_both (Rat.le_trans b (show ab ((s / 65536 - 16384 : Int) : Rat) + 1 ≤ 16385 by grind))
    apply ab_le <;> grind
  have l := (ep_le (k := .f32) hq).2
  have u1 := Q.up
  have u2 := Q.lo
  obtain ⟨c1, c2⟩ := ab_both hq
  rw [e]
  exact ⟨Q.fin, by apply ab_le <;> grind⟩
theorem wd_c64 {x : Nat} (h : isF .f32 x) : wd x = c64 x := by
  unfold c64
  rw [h.num]
  rfl
/-- The turns. -/
theorem turnF_near {s : Int} {n m : Nat} (h0 : 0 ≤ s) (h1 : s ≤ 2147483647) (hm : m ≤ 200) (n1 : 9 ≤ n) (n2 : n ≤ 19) (hmn : (m : Rat) / (n : Rat) ≤ 10) : Ap .f64 (turnF s (m : Int) (n : Int)) (phi s + (m : Rat) / (n : Rat)) (1 / 10000000000000) ∧ ab (phi s) ≤ 1 := by
  obtain ⟨d1, d2⟩ := drawn_near h0 h1
  obtain ⟨e0, e1⟩ := ep64
  have W : Ap .f64 (wd (drawnF s)) (rv .f32 (drawnF s)) 0 := by
    rw [wd_c64 d1]
    exact (Ap.self d1).c64
  have M := ((Ap.exact kH_val.1 kH_val.2).mul (1 / 2) 2 1 W (by decide +kernel) d2 (by decide +kernel) (by decide +kernel)).2
  obtain ⟨i1, i2⟩ := ofInt_val (n := (m : Int)) (by omega)
  obtain ⟨j1, j2⟩ := ofInt_val (n := (n : Int)) (by omega)
  rw [Rat.intCast_natCast] at i2 j2
  have hn1 : (1 : Rat) ≤ (n : Rat) := by
    have : ((1 : Nat) : Rat) ≤ (n : Rat) := Rat.natCast_le_natCast.2 (by omega)
    exact this
  have hm0 : (0 : Rat) ≤ (m : Rat) := by exact_mod_cast Nat.zero_le m
  have hm2 : (m : Rat) ≤ 200 := by
    have : (m : Rat) ≤ ((200 : Nat) : Rat) := Rat.natCast_le_natCast.2 hm
    exact this
  have Q := ((Ap.exact i1 i2).quo 200 j1 j2 hn1 (by rw [ab_of_nonneg hm0]; grind) (by decide +kernel)).2
  have hq0 := div_nn hn1 hm0
  obtain ⟨b1, b2⟩ := ab_both d2
  have hphi : ab (phi s) ≤ 1 := by unfold phi; apply ab_le <;> grind
  have e3 : 1 / 2 * rv .f32 (drawnF s) = phi s := by unfold phi; grind
  rw [e3] at M
  have e4 : (0 : Rat) / (n : Rat) = 0 := by rw [Rat.div_def]; grind
  rw [e4] at Q
  obtain ⟨p1, p2⟩ := ab_both hphi
  have A := (M.add 13 Q (by
    have : ab (phi s + (m : Rat) / (n : Rat)) ≤ 11 := by apply ab_le <;> grind
    grind) (by decide +kernel)).2
  refine ⟨?_, hphi⟩
  unfold turnF
  exact A.w (by decide +kernel)
/-- The k-th wave at a place. -/
theorem wave_near {s : Int} {n m a : Nat} (h0 : 0 ≤ s) (h1 : s ≤ 2147483647) (hm : m ≤ 200) (hn : n = 2 * a + 9) (ha : a < 6) (hmn : (m : Rat) / (n : Rat) ≤ 10) :
    Ap .f32 (phV (turnF s (m : Int) (n : Int))).1 (pC s * cT n (m % n) - pS s * sT n (m % n)) (9 * aN) := by
  obtain ⟨T, hphi⟩ := turnF_near h0 h1 hm (by omega) (by omega) hmn
  have hn1 : (1 : Rat) ≤ (n : Rat) := by
    have : ((1 : Nat) : Rat) ≤ (n : Rat) := Rat.natCast_le_natCast.2 (by omega)
    exact this
  have hm0 : (0 : Rat) ≤ (m : Rat) := by exact_mod_cast Nat.zero_le m
  have hq0 := div_nn hn1 hm0
  obtain ⟨p1, p2⟩ := ab_both hphi
  obtain ⟨t1, t2⟩ := ab_both T.2
  have hU := turn_up (s := s) (ik := (m : Int)) (count := n) h0 h1 (by omega) (by omega) (by omega) (by omega)
  obtain ⟨q, N, r, e, P⟩ := phasor_near T.1 (by apply ab_le <;> grind) hU
  have hj : m % n < n := Nat.mod_lt _ (by omega)
  have TF := tab_ok hn ha hj
  obtain ⟨f0, f1⟩ := phF_bd s
  obtain ⟨_, c1, s1⟩ := ps_one s
  obtain ⟨z1, z2⟩ := ab_both P.er
  -- m over n: whole ones and the rest
  have hdm : (m : Rat) / (n : Rat) = ((m / n : Nat) : Rat) + ((m % n : Nat) : Rat) / (n : Rat) := by
    have e1 := Nat.div_add_mod m n
    have e2 : (m : Rat) = (n : Rat) * ((m / n : Nat) : Rat) + ((m % n : Nat) : Rat) := by
      have := congrArg (fun z : Nat => (z : Rat)) e1
      rw [Rat.natCast_add, Rat.natCast_mul] at this
      exact this.symm
    have hne : (n : Rat) ≠ 0 := by grind
    have hi : (n : Rat) * (n : Rat)⁻¹ = 1 := Rat.mul_inv_cancel _ hne
    rw [Rat.div_def, Rat.div_def, e2]
    generalize ((m / n : Nat) : Rat) = u
    generalize ((m % n : Nat) : Rat) = v
    grind
  obtain ⟨ee, hee⟩ : ∃ ee, ee = rv .f64 (turnF s (m : Int) (n : Int)) - (phi s + (m : Rat) / (n : Rat)) + e := ⟨_, rfl⟩
  have K := turn_add (a := phA s) (b := tb n (m % n)) (q := q) (N := N + ((m / n : Nat) : Int)) (f := phF s) (g := tf n (m % n)) (r := r) (e := ee) f0 f1 TF.f0 TF.f1 P.r0 P.r1 (by rw [hee]; apply ab_le <;> grind) (by
    have h2 := P.eq
    rw [h2, hee, Rat.intCast_add, Rat.intCast_natCast, hdm]
    unfold phF tf tb
    rw [Rat.intCast_natCast]
    generalize ((m / n : Nat) : Rat) = u
    generalize ((m % n : Nat) : Rat) / (n : Rat) = v
    generalize ((4 * (m % n) / n : Nat) : Rat) = y
    grind)
  have ha' : aN = 1 / 1000000 := rfl
  have g1 : ab (pC s * vC (tb n (m % n)) (tf n (m % n)) - pC s * cT n (m % n)) ≤ 1001 / 1000 * (1 / 10000000) := by
    have e : pC s * vC (tb n (m % n)) (tf n (m % n)) - pC s * cT n (m % n) = pC s * (vC (tb n (m % n)) (tf n (m % n)) - cT n (m % n)) := by grind
    rw [e]
    exact mul_sm c1 TF.c
  have g2 : ab (pS s * vS (tb n (m % n)) (tf n (m % n)) - pS s * sT n (m % n)) ≤ 1001 / 1000 * (1 / 10000000) := by
    have e : pS s * vS (tb n (m % n)) (tf n (m % n)) - pS s * sT n (m % n) = pS s * (vS (tb n (m % n)) (tf n (m % n)) - sT n (m % n)) := by grind
    rw [e]
    exact mul_sm s1 TF.s
  obtain ⟨k1, k2⟩ := ab_both K.1
  obtain ⟨x1, x2⟩ := ab_both g1
  obtain ⟨y1, y2⟩ := ab_both g2
  have hC : vC (phA s) (phF s) = pC s := rfl
  have hS : vS (phA s) (phF s) = pS s := rfl
  rw [hC, hS] at k1 k2
  rw [ha'] at k1 k2
  have R := P.re
  rw [ha'] at R ⊢
  exact R.to (by grind) (by grind)
end Go.Proofs.Ytamgekijihpgkaa

/- The drawn line is nearly a sum of waves. Plain. -/
namespace Go.Proofs.Ytamgekijihpgkaa
open Go.RowKit Ieee

/-- Halves. -/
def q2 (a : Nat) : Nat := fop .quo .f32 (cn .f32 (floatOfInt .f32 (a : Int))) (cn .f32 1073741824)
def wR (a k : Nat) : Rat := rv .f32 (wv (q2 a) k)
def wB (a k : Nat) : Bool := isFb .f32 (wv (q2 a) k) && decide (0 ≤ wR a k) && decide (wR a k ≤ 1)
theorem w_all : ∀ a, a < 9 → ∀ k, k < 9 → wB a (k + 1) = true := by decide +kernel
theorem w_ok {a k : Nat} (ha : a < 9) (hk : k < 9) : isF .f32 (wv (q2 a) (k + 1)) ∧ 0 ≤ wR a (k + 1) ∧ wR a (k + 1) ≤ 1 := by
  have h := w_all a ha k hk
  unfold wB at h
  simp only [Bool.and_eq_true, decide_eq_true_eq] at h
  exact ⟨isF_of h.1.1, h.1.2, h.2⟩
/-- A wave's share at a place. -/
def shR (s : Int) (n m : Nat) : Rat := pC s * cT n (m % n) - pS s * sT n (m % n)
def oR (a : Nat) (seed : Int) (n : Nat) : Nat → Nat → Rat
  | 0, _ => 0
  | k + 1, i => oR a seed n k i + wR a (k + 1) * shR (sd seed (k + 1)) n (i * (k + 1))
theorem sh_bd {s : Int} {n m b : Nat} (hn : n = 2 * b + 9) (hb : b < 6) : ab (shR s n m) ≤ 21 / 10 := by
  have T := tab_ok hn hb (Nat.mod_lt m (show n > 0 by omega))
  obtain ⟨_, c, t⟩ := ps_one s
  have a1 := mul_sm c T.c1
  have a2 := mul_sm t T.s1
  unfold shR
  obtain ⟨x1, x2⟩ := ab_both a1
  obtain ⟨y1, y2⟩ := ab_both a2
  apply ab_le <;> grind
theorem nat_cast9 {k : Nat} (h : k ≤ 9) : (k : Rat) ≤ 9 ∧ 0 ≤ (k : Rat) := by
  have : (k : Rat) ≤ ((9 : Nat) : Rat) := Rat.natCast_le_natCast.2 h
  exact ⟨this, by exact_mod_cast Nat.zero_le k⟩
theorem nat_succ (k : Nat) : ((k + 1 : Nat) : Rat) = (k : Rat) + 1 := by rw [Rat.natCast_add]; rfl
theorem oR_bd {a b n : Nat} {seed : Int} (ha : a < 9) (hn : n = 2 * b + 9) (hb : b < 6) (i : Nat) : ∀ k, k ≤ 9 → ab (oR a seed n k i) ≤ (k : Rat) * (21 / 10)
  | 0, _ => by show ab 0 ≤ ((0 : Nat) : Rat) * (21 / 10); decide +kernel
  | k + 1, hk => by
    have ih := oR_bd (seed := seed) ha hn hb i k (by omega)
    obtain ⟨_, w0, w1⟩ := w_ok ha (k := k) (by omega)
    have s := sh_bd (s := sd seed (k + 1)) (m := i * (k + 1)) hn hb
    have m := mul_sm (show ab (wR a (k + 1)) ≤ 1 by rw [ab_of_nonneg w0]; exact w1) s
    have t := ab_add (oR a seed n k i) (wR a (k + 1) * shR (sd seed (k + 1)) n (i * (k + 1)))
    rw [nat_succ]
    show ab (oR a seed n k i + wR a (k + 1) * shR (sd seed (k + 1)) n (i * (k + 1))) ≤ _
    grind
theorem oF_near {a b n : Nat} {seed : Int} (ha : a < 9) (hn : n = 2 * b + 9) (hb : b < 6) (s0 : 0 ≤ seed) (s1 : seed ≤ 2147483647) {i : Nat} (hi : i < n) : ∀ k, k ≤ 9 → Ap .f32 (oF (q2 a) seed (n : Int) k i) (oR a seed n k i) ((k : Rat) * (13 / 1000000))
  | 0, _ => (Ap.exact (isF_of (by decide +kernel)) (by decide +kernel) : Ap .f32 0 0 0).w (by show (0 : Rat) ≤ ((0 : Nat) : Rat) * (13 / 1000000); decide +kernel)
  | k + 1, hk => by
    have ih := oF_near (seed := seed) ha hn hb s0 s1 hi k (by omega)
    obtain ⟨wf, w0, w1⟩ := w_ok ha (k := k) (by omega)
    obtain ⟨d0, d1⟩ := sd_bd s0 s1 (k + 1)
    have hm : i * (k + 1) ≤ 200 := by
      have : i * (k + 1) ≤ 18 * 9 := Nat.mul_le_mul (by omega) (by omega)
      omega
    have hn1 : (1 : Rat) ≤ (n : Rat) := by
      have : ((1 : Nat) : Rat) ≤ (n : Rat) := Rat.natCast_le_natCast.2 (by omega)
      exact this
    have hmn : ((i * (k + 1) : Nat) : Rat) / (n : Rat) ≤ 10 := by
      have h1 : ((i * (k + 1) : Nat) : Rat) ≤ ((n * 9 : Nat) : Rat) := Rat.natCast_le_natCast.2 (Nat.mul_le_mul (by omega) (by omega))
      rw [Rat.natCast_mul n 9] at h1
      have h9 : ((9 : Nat) : Rat) = 9 := rfl
      rw [h9] at h1
      have hne : (n : Rat) ≠ 0 := by grind
      have hi2 := div_nn hn1 (show (0 : Rat) ≤ 1 by decide)
      have h2 := Rat.mul_le_mul_of_nonneg_right h1 hi2
      have hii : (n : Rat) * (n : Rat)⁻¹ = 1 := Rat.mul_inv_cancel _ hne
      rw [Rat.div_def, Rat.one_mul] at h2
      rw [Rat.div_def]
      generalize ((i * (k + 1) : Nat) : Rat) * (n : Rat)⁻¹ = z at *
      grind
    have P := wave_near (s := sd seed (k + 1)) (m := i * (k + 1)) d0 d1 hm hn hb hmn
    have P' : Ap .f32 (phV (turnF (sd seed (k + 1)) ((i * (k + 1) : Nat) : Int) (n : Int))).1 (shR (sd seed (k + 1)) n (i * (k + 1))) (9 / 1000000) := P.w (by decide +kernel)
    have sb := sh_bd (s := sd seed (k + 1)) (m := i * (k + 1)) hn hb
    have M := ((Ap.self wf).mul 1 (21 / 10) 3 P' (show ab (wR a (k + 1)) ≤ 1 by rw [ab_of_nonneg w0]; exact w1) sb (by decide +kernel) (by decide +kernel)).2
    have M' : Ap .f32 (fop .mul .f32 (wv (q2 a) (k + 1)) (phV (turnF (sd seed (k + 1)) ((i * (k + 1) : Nat) : Int) (n : Int))).1) (wR a (k + 1) * shR (sd seed (k + 1)) n (i * (k + 1))) (10 / 1000000) := M.w (by decide +kernel)
    have ob := oR_bd (seed := seed) ha hn hb i (k + 1) hk
    obtain ⟨k1, k2⟩ := nat_cast9 hk
    rw [nat_succ] at k1 ob ⊢
    obtain ⟨_, k3⟩ := nat_cast9 (k := k) (by omega)
    have A := (ih.add 20 M' (by
      show ab (oR a seed n (k + 1) i) + _ ≤ 20
      grind) (by decide +kernel)).2
    have e := ep32.2
    rw [oF_succ]
    have ec : (i : Int) * ((k + 1 : Nat) : Int) = ((i * (k + 1) : Nat) : Int) := by push_cast; rfl
    rw [ec]
    exact A.w (by grind)
end Go.Proofs.Ytamgekijihpgkaa

/- The sums of a line with the points of the circle. Plain. -/
namespace Go.Proofs.Ytamgekijihpgkaa
open Go.RowKit Ieee

def sumN (f : Nat → Rat) : Nat → Rat
  | 0 => 0
  | n + 1 => sumN f n + f n
theorem sumN_lin (f g h : Nat → Rat) (u : Rat) (H : ∀ i, f i = g i + u * h i) : ∀ n, sumN f n = sumN g n + u * sumN h n
  | 0 => by show (0 : Rat) = 0 + u * 0; grind
  | n + 1 => by
    have ih := sumN_lin f g h u H n
    have e := H n
    show sumN f n + f n = sumN g n + g n + u * (sumN h n + h n)
    rw [ih, e]; grind
def sumI (f : Nat → Int) : Nat → Int
  | 0 => 0
  | n + 1 => sumI f n + f n
theorem sumI_cast (f : Nat → Int) (c : Rat) (g : Nat → Rat) (H : ∀ i, g i = (f i : Rat) * c) : ∀ n, sumN g n = ((sumI f n : Int) : Rat) * c
  | 0 => by show (0 : Rat) = ((0 : Int) : Rat) * c; have : ((0 : Int) : Rat) = 0 := rfl; grind
  | n + 1 => by
    have ih := sumI_cast f c g H n
    show sumN g n + g n = ((sumI f n + f n : Int) : Rat) * c
    rw [ih, H, Rat.intCast_add]; grind
def cI (n j : Nat) : Int := (cTab n).getD j 0
def sI (n j : Nat) : Int := (sTab n).getD j 0
/-- The points of the circle are square to each other, nearly. -/
def ortB (n k l : Nat) : Bool :=
  let h : Int := if k = l then n * 5000000000000000 else 0
  decide ((sumI (fun i => cI n (i * k % n) * cI n (i * l % n)) n - h).natAbs ≤ 10000000000) && decide ((sumI (fun i => sI n (i * k % n) * cI n (i * l % n)) n).natAbs ≤ 10000000000) &&
  decide ((sumI (fun i => cI n (i * k % n) * sI n (i * l % n)) n).natAbs ≤ 10000000000) && decide ((sumI (fun i => sI n (i * k % n) * sI n (i * l % n)) n - h).natAbs ≤ 10000000000)
theorem ort_all : ∀ b, b < 6 → ∀ k, k < b + 4 → ∀ l, l < b + 4 → ortB (2 * b + 9) (k + 1) (l + 1) = true := by decide +kernel
def xx (f g : Nat → Nat → Rat) (n k l : Nat) : Rat := sumN (fun i => f n (i * k % n) * g n (i * l % n)) n
structure OrtF (n k l : Nat) : Prop where
  cc : ab (xx cT cT n k l - (if k = l then (n : Rat) / 2 else 0)) ≤ 1 / 1000000
  sc : ab (xx sT cT n k l) ≤ 1 / 1000000
  cs : ab (xx cT sT n k l) ≤ 1 / 1000000
  ss : ab (xx sT sT n k l - (if k = l then (n : Rat) / 2 else 0)) ≤ 1 / 1000000
theorem nat_ab {z : Int} {N : Nat} (h : z.natAbs ≤ N) (c : Rat) (hc : 0 ≤ c) : ab ((z : Rat) * c) ≤ (N : Rat) * c := by
  have a : (z : Rat) ≤ ((N : Int) : Rat) := Rat.intCast_le_intCast.2 (by omega)
  have b : ((-(N : Int) : Int) : Rat) ≤ (z : Rat) := Rat.intCast_le_intCast.2 (by omega)
  rw [Rat.intCast_natCast] at a
  rw [Rat.intCast_neg, Rat.intCast_natCast] at b
  have x := Rat.mul_le_mul_of_nonneg_right a hc
  have y := Rat.mul_le_mul_of_nonneg_right b hc
  apply ab_le <;> grind
theorem ort_ok {n k l b : Nat} (hn : n = 2 * b + 9) (hb : b < 6) (hk : 1 ≤ k) (hk2 : k ≤ b + 4) (hl : 1 ≤ l) (hl2 : l ≤ b + 4) : OrtF n k l := by
  have h := ort_all b hb (k - 1) (by omega) (l - 1) (by omega)
  rw [show k - 1 + 1 = k by omega, show l - 1 + 1 = l by omega, ← hn] at h
  unfold ortB at h
  simp only [Bool.and_eq_true, decide_eq_true_eq] at h
  obtain ⟨⟨⟨h1, h2⟩, h3⟩, h4⟩ := h
  obtain ⟨c, hc⟩ : ∃ c : Rat, c = 1 / 10000000000000000 := ⟨_, rfl⟩
  have hc0 : 0 ≤ c := by rw [hc]; decide +kernel
  have eN : ((10000000000 : Nat) : Rat) * c = 1 / 1000000 := by rw [hc]; decide +kernel
  have two : ∀ (f g : Nat → Nat → Int) (F G : Nat → Nat → Rat), (∀ i, F n i = (f n i : Rat) / 100000000) → (∀ i, G n i = (g n i : Rat) / 100000000) → xx F G n k l = ((sumI (fun i => f n (i * k % n) * g n (i * l % n)) n : Int) : Rat) * c := fun f g F G hF hG => by
    unfold xx
    refine sumI_cast _ c _ (fun i => ?_) n
    rw [hF, hG, Rat.intCast_mul, hc]
    grind
  have eh : (((if k = l then (n : Int) * 5000000000000000 else 0 : Int)) : Rat) * c = if k = l then (n : Rat) / 2 else 0 := by
    split
    · rw [Rat.intCast_mul, Rat.intCast_natCast, hc]
      have : ((5000000000000000 : Int) : Rat) = 5000000000000000 := rfl
      rw [this]
      grind
    · have : ((0 : Int) : Rat) = 0 := rfl
      rw [this]; grind
  have g1 := nat_ab h1 c hc0
  have g2 := nat_ab h2 c hc0
  have g3 := nat_ab h3 c hc0
  have g4 := nat_ab h4 c hc0
  rw [eN] at g1 g2 g3 g4
  have sub : ∀ (a b : Int), ((a - b : Int) : Rat) * c = (a : Rat) * c - (b : Rat) * c := fun a b => by rw [Rat.intCast_sub]; grind
  rw [sub, eh] at g1 g4
  refine ⟨?_, ?_, ?_, ?_⟩
  · rw [two cI cI cT cT (fun _ => rfl) (fun _ => rfl)]; exact g1
  · rw [two sI cI sT cT (fun _ => rfl) (fun _ => rfl)]; exact g2
  · rw [two cI sI cT sT (fun _ => rfl) (fun _ => rfl)]; exact g3
  · rw [two sI sI sT sT (fun _ => rfl) (fun _ => rfl)]; exact g4
/-- The exact sums of the waves. -/
def dC (a : Nat) (seed : Int) (n K l : Nat) : Rat := sumN (fun i => oR a seed n K i * cT n (i * l % n)) n
def dS (a : Nat) (seed : Int) (n K l : Nat) : Rat := sumN (fun i => oR a seed n K i * sT n (i * l % n)) n
theorem d_step (a : Nat) (seed : Int) (n K l : Nat) (g : Nat → Nat → Rat) : sumN (fun i => oR a seed n (K + 1) i * g n (i * l % n)) n = sumN (fun i => oR a seed n K i * g n (i * l % n)) n + wR a (K + 1) * (pC (sd seed (K + 1)) * xx cT g n (K + 1) l - pS (sd seed (K + 1)) * xx sT g n (K + 1) l) := by
  have e1 := sumN_lin (fun i => oR a seed n (K + 1) i * g n (i * l % n)) (fun i => oR a seed n K i * g n (i * l % n)) (fun i => shR (sd seed (K + 1)) n (i * (K + 1)) * g n (i * l % n)) (wR a (K + 1)) (fun i => by
    show (oR a seed n K i + wR a (K + 1) * shR (sd seed (K + 1)) n (i * (K + 1))) * g n (i * l % n) = _
    grind) n
  have e2 := sumN_lin (fun i => shR (sd seed (K + 1)) n (i * (K + 1)) * g n (i * l % n)) (fun i => pC (sd seed (K + 1)) * (cT n (i * (K + 1) % n) * g n (i * l % n))) (fun i => sT n (i * (K + 1) % n) * g n (i * l % n)) (-pS (sd seed (K + 1))) (fun i => by
    show (pC (sd seed (K + 1)) * cT n (i * (K + 1) % n) - pS (sd seed (K + 1)) * sT n (i * (K + 1) % n)) * g n (i * l % n) = _
    grind) n
  have e3 := sumN_lin (fun i => pC (sd seed (K + 1)) * (cT n (i * (K + 1) % n) * g n (i * l % n))) (fun _ => 0) (fun i => cT n (i * (K + 1) % n) * g n (i * l % n)) (pC (sd seed (K + 1))) (fun i => by grind) n
  have e0 : ∀ n, sumN (fun _ => (0 : Rat)) n = 0 := fun n => by
    induction n with
    | zero => rfl
    | succ n ih => show sumN (fun _ => (0 : Rat)) n + 0 = 0; rw [ih]; decide +kernel
  rw [e1, e2, e3, e0]
  unfold xx
  grind
theorem d_near {a b n l : Nat} {seed : Int} (ha : a < 9) (hn : n = 2 * b + 9) (hb : b < 6) (hl : 1 ≤ l) (hl2 : l ≤ b + 4) : ∀ K, K ≤ b + 4 →
    ab (dC a seed n K l - (if l ≤ K then wR a l * pC (sd seed l) * ((n : Rat) / 2) else 0)) ≤ (K : Rat) * (3 / 1000000) ∧ ab (dS a seed n K l - (if l ≤ K then -(wR a l * pS (sd seed l) * ((n : Rat) / 2)) else 0)) ≤ (K : Rat) * (3 / 1000000)
  | 0, _ => by
    have z : ∀ (g : Nat → Nat → Rat) m, sumN (fun i => oR a seed n 0 i * g n (i * l % n)) m = 0 := fun g m => by
      induction m with
      | zero => rfl
      | succ m ih =>
        show sumN (fun i => oR a seed n 0 i * g n (i * l % n)) m + 0 * g n (m * l % n) = 0
        rw [ih]; grind
    unfold dC dS
    rw [z, z, if_neg (by omega), if_neg (by omega)]
    constructor
    · show ab ((0 : Rat) - 0) ≤ ((0 : Nat) : Rat) * (3 / 1000000); decide +kernel
    · show ab ((0 : Rat) - 0) ≤ ((0 : Nat) : Rat) * (3 / 1000000); decide +kernel
  | K + 1, hK => by
    obtain ⟨i1, i2⟩ := d_near (seed := seed) ha hn hb hl hl2 K (by omega)
    have O := ort_ok (k := K + 1) (l := l) hn hb (by omega) hK hl hl2
    obtain ⟨_, w0, w1⟩ := w_ok ha (k := K) (by omega)
    obtain ⟨_, c1, s1⟩ := ps_one (sd seed (K + 1))
    have hw : ab (wR a (K + 1)) ≤ 1 := by rw [ab_of_nonneg w0]; exact w1
    have e1 : dC a seed n (K + 1) l = dC a seed n K l + wR a (K + 1) * (pC (sd seed (K + 1)) * xx cT cT n (K + 1) l - pS (sd seed (K + 1)) * xx sT cT n (K + 1) l) := d_step a seed n K l cT
    have e2 : dS a seed n (K + 1) l = dS a seed n K l + wR a (K + 1) * (pC (sd seed (K + 1)) * xx cT sT n (K + 1) l - pS (sd seed (K + 1)) * xx sT sT n (K + 1) l) := d_step a seed n K l sT
    obtain ⟨h, hh⟩ : ∃ h : Rat, h = if K + 1 = l then (n : Rat) / 2 else 0 := ⟨_, rfl⟩
    have oc := O.cc
    have os := O.ss
    rw [← hh] at oc os
    have t1 := mul_sm c1 oc
    have t2 := mul_sm s1 O.sc
    have t3 := mul_sm c1 O.cs
    have t4 := mul_sm s1 os
    obtain ⟨C, hC⟩ : ∃ C, C = pC (sd seed (K + 1)) := ⟨_, rfl⟩
    obtain ⟨T, hT⟩ : ∃ C, C = pS (sd seed (K + 1)) := ⟨_, rfl⟩
    rw [← hC, ← hT] at e1 e2
    rw [← hC] at t1 t3
    rw [← hT] at t2 t4
    have m1 : ab (wR a (K + 1) * (C * (xx cT cT n (K + 1) l - h) - T * xx sT cT n (K + 1) l)) ≤ 1 * (3 / 1000000) := mul_sm hw (by
      obtain ⟨x1, x2⟩ := ab_both t1
      obtain ⟨y1, y2⟩ := ab_both t2
      apply ab_le <;> grind)
    have m2 : ab (wR a (K + 1) * (C * xx cT sT n (K + 1) l - T * (xx sT sT n (K + 1) l - h))) ≤ 1 * (3 / 1000000) := mul_sm hw (by
      obtain ⟨x1, x2⟩ := ab_both t3
      obtain ⟨y1, y2⟩ := ab_both t4
      apply ab_le <;> grind)
    have f1 : (if l ≤ K + 1 then wR a l * pC (sd seed l) * ((n : Rat) / 2) else 0) = (if l ≤ K then wR a l * pC (sd seed l) * ((n : Rat) / 2) else 0) + wR a (K + 1) * (C * h) := by
      rcases Nat.lt_trichotomy l (K + 1) with h1 | h1 | h1
      · rw [if_pos (by omega), if_pos (by omega), hh, if_neg (by omega)]; grind
      · rw [if_pos (by omega), if_neg (by omega), hh, if_pos h1.symm, hC, h1]; grind
      · rw [if_neg (by omega), if_neg (by omega), hh, if_neg (by omega)]; grind
    have f2 : (if l ≤ K + 1 then -(wR a l * pS (sd seed l) * ((n : Rat) / 2)) else 0) = (if l ≤ K then -(wR a l * pS (sd seed l) * ((n : Rat) / 2)) else 0) - wR a (K + 1) * (T * h) := by
      rcases Nat.lt_trichotomy l (K + 1) with h1 | h1 | h1
      · rw [if_pos (by omega), if_pos (by omega), hh, if_neg (by omega)]; grind
      · rw [if_pos (by omega), if_neg (by omega), hh, if_pos h1.symm, hT, h1]; grind
      · rw [if_neg (by omega), if_neg (by omega), hh, if_neg (by omega)]; grind
    rw [e1, e2, f1, f2, nat_succ]
    generalize (if l ≤ K then wR a l * pC (sd seed l) * ((n : Rat) / 2) else 0) = z1 at *
    generalize (if l ≤ K then -(wR a l * pS (sd seed l) * ((n : Rat) / 2)) else 0) = z2 at *
    generalize dC a seed n K l = q1 at *
    generalize dS a seed n K l = q2 at *
    generalize wR a (K + 1) = W at *
    generalize xx cT cT n (K + 1) l = M1 at *
    generalize xx sT cT n (K + 1) l = M2 at *
    generalize xx cT sT n (K + 1) l = M3 at *
    generalize xx sT sT n (K + 1) l = M4 at *
    have g1 : W * (C * M1 - T * M2) = W * (C * (M1 - h) - T * M2) + W * (C * h) := by grind
    have g2 : W * (C * M3 - T * M4) = W * (C * M3 - T * (M4 - h)) - W * (T * h) := by grind
    rw [g1, g2]
    generalize W * (C * (M1 - h) - T * M2) = x1 at *
    generalize W * (C * M3 - T * (M4 - h)) = x2 at *
    generalize W * (C * h) = y1 at *
    generalize W * (T * h) = y2 at *
    obtain ⟨i3, i4⟩ := ab_both i1
    obtain ⟨i5, i6⟩ := ab_both i2
    obtain ⟨m3, m4⟩ := ab_both m1
    obtain ⟨m5, m6⟩ := ab_both m2
    constructor
    · apply ab_le <;> grind
    · apply ab_le <;> grind
end Go.Proofs.Ytamgekijihpgkaa
