/- The slope of logarithms is nearly what the rational numbers say. Plain. -/
import Derived.Test.YtamgekijihpgkaaMd
import Derived.Test.YtamgekijihpgkaaMe
import Derived.Test.YtamgekijihpgkaaSlP
namespace Go.Proofs.Ytamgekijihpgkaa
open Go.RowKit Ieee

/-- A positive number is one that the program takes. -/
theorem pos_ok {x : Nat} (h : isF .f32 x) (h0 : 0 < rv .f32 x) : ford .f32 (cn .f32 x) (cn .f32 0) = some .gt ∧ finB (cn .f32 x) = true := by
  have z : isF .f32 0 ∧ rv .f32 0 = 0 := constF (by decide +kernel)
  rw [h.cn, z.1.cn]
  refine ⟨(order_val h z.1).2.1.2 (by rw [z.2]; exact h0), ?_⟩
  have e : rv .f32 x - rv .f32 x = 0 := by grind
  have O := op_sub h h (by rw [e, ab_zero]; exact Rat.le_of_lt (zpos _))
  have p := O.near.pos (by rw [e]; exact Rat.le_refl)
  have n := O.near.neg (by rw [e]; exact Rat.le_refl)
  unfold finB
  rw [z.1.cn, (order_val O.near.fin z.1).2.2.2 (by rw [z.2]; grind)]
  rfl
/-- A number brought near to 1. -/
def dn : Nat → Rat → Int → Rat × Int
  | 0, c, e => (c, e)
  | f + 1, c, e => if 3 / 2 < c then dn f (c / 2) (e + 1) else if c < 3 / 4 then dn f (2 * c) (e - 1) else (c, e)
theorem dn_val : ∀ (f : Nat) (c : Rat) (e : Int), (dn f c e).1 * (2 : Rat) ^ (dn f c e).2 = c * (2 : Rat) ^ e
  | 0, c, e => rfl
  | f + 1, c, e => by
    unfold dn
    split
    · rw [dn_val f, z_succ]; grind
    · split
      · rw [dn_val f]
        have := z_succ (e - 1)
        rw [show e - 1 + 1 = e by omega] at this
        rw [this]; grind
      · rfl
def lnC (c : Rat) : Rat := lnT (dn 20 c 0).1 + ((dn 20 c 0).2 : Rat) * l2
def redB (c : Rat) : Bool := decide (3 / 4 ≤ (dn 20 c 0).1) && decide ((dn 20 c 0).1 ≤ 3 / 2)
theorem red_ok {c : Rat} (h : redB c = true) : 3 / 4 ≤ (dn 20 c 0).1 ∧ (dn 20 c 0).1 ≤ 3 / 2 ∧ c = (dn 20 c 0).1 * (2 : Rat) ^ (dn 20 c 0).2 := by
  unfold redB at h
  simp only [Bool.and_eq_true, decide_eq_true_eq] at h
  refine ⟨h.1, h.2, ?_⟩
  rw [dn_val, Rat.zpow_zero, Rat.mul_one]
/-- The program's logarithm of a number between others. -/
theorem logF_near {p : Nat} {c d : Rat} (hp : isF .f32 p) (c0 : 1 / 1024 ≤ c) (hc : c ≤ rv .f32 p) (hd : rv .f32 p ≤ d) (d1 : d ≤ 1024) (rc : redB c = true) (rd : redB d = true) :
    isF .f32 (logF p) ∧ lnC c - 3 / 1000000 ≤ rv .f32 (logF p) ∧ rv .f32 (logF p) ≤ lnC d + 3 / 1000000 ∧ ab (rv .f32 (logF p)) ≤ 9 := by
  obtain ⟨o1, o2⟩ := pos_ok hp (by grind)
  have I := wide_in o1 o2
  rw [hp.cn] at I
  obtain ⟨z, e, h1, h2, h3, h4, h5, h6, h7⟩ := lnW_val I
  obtain ⟨w1, w2⟩ := wide_val hp
  rw [w2] at h5
  have e0 : -20 ≤ e := by
    rcases Int.lt_or_le e (-20) with h | h
    · exfalso
      have a := zle (show e ≤ -20 by omega)
      have b := Rat.mul_le_mul_of_nonneg_left a (show 0 ≤ rv .f64 z by grind)
      have k : (2 : Rat) ^ (-20 : Int) ≤ 1 / 1000000 := by decide +kernel
      have b2 := Rat.mul_le_mul_of_nonneg_left k (show 0 ≤ rv .f64 z by grind)
      grind
    · exact h
  have e1 : e ≤ 20 := by
    rcases Int.lt_or_le 20 e with h | h
    · exfalso
      have a := zle (show 20 ≤ e by omega)
      have b := Rat.mul_le_mul_of_nonneg_left a (show 0 ≤ rv .f64 z by grind)
      have k : 1000000 ≤ (2 : Rat) ^ (20 : Int) := by decide +kernel
      have b2 := Rat.mul_le_mul_of_nonneg_left k (show 0 ≤ rv .f64 z by grind)
      grind
    · exact h
  have L := lnZ_near h2 h3 h4 e0 e1
  obtain ⟨c1, c2, c3⟩ := red_ok rc
  obtain ⟨d2, d3, d4⟩ := red_ok rd
  have m1 := ln_mono c3 h5 c1 c2 h3 h4 hc
  have m2 := ln_mono h5 d4 h3 h4 d2 d3 hd
  obtain ⟨V, hV⟩ : ∃ V, V = lnT (rv .f64 z) + (e : Rat) * l2 := ⟨_, rfl⟩
  rw [← hV] at L m1 m2
  -- how great it is
  have k10 : redB (1 / 1024) = true ∧ redB 1024 = true ∧ lnC 1024 ≤ 7 ∧ -7 ≤ lnC (1 / 1024) := by decide +kernel
  obtain ⟨g1, g2, g3⟩ := red_ok k10.1
  obtain ⟨i1, i2, i3⟩ := red_ok k10.2.1
  have m3 := ln_mono g3 h5 g1 g2 h3 h4 (by grind)
  have m4 := ln_mono h5 i3 h3 h4 i1 i2 (by grind)
  rw [← hV] at m3 m4
  have k3 := k10.2.2.1
  have k4 := k10.2.2.2
  unfold lnC at k3 k4 ⊢
  have N := (L.n32 8 (by
    have : ab V ≤ 71 / 10 := by apply ab_le <;> grind
    grind) (by decide +kernel)).2
  have hl : logF p = n32 (cn .f64 (lnZ z e)) := by
    unfold logF
    rw [h1, L.1.cn]
  rw [hl]
  have N' : Ap .f32 (n32 (cn .f64 (lnZ z e))) V (2 / 1000000) := N.w (by decide +kernel)
  obtain ⟨n1, n2⟩ := ab_both N'.2
  refine ⟨N'.1, by grind, by grind, by apply ab_le <;> grind⟩
/-! Sums of lists. -/
theorem le3 {a b c : Rat} (h : a + b ≤ c) (ha : 0 ≤ a) (hb : 0 ≤ b) : 0 ≤ c ∧ a ≤ c := by constructor <;> grind
theorem sumF_near (Y : List Nat) (v : Nat → Rat) {E B e1 : Rat} (h : ∀ i (h : i < Y.length), Ap .f32 Y[i] (v i) E) (hv : ∀ i, ab (v i) ≤ B) (hl : Y.length ≤ 9) (hB : B ≤ 1000) (hE : E + ep .f32 * (9 * B + 1 + 1) ≤ e1) (h0 : 0 ≤ E) (h9 : 9 * e1 ≤ 1) :
    ∀ n, n ≤ Y.length → Ap .f32 (sumF (Y.take n)) (sumN v n) ((n : Rat) * e1)
  | 0, _ => by
    rw [List.take_zero]
    exact (Ap.exact (isF_of (by decide +kernel)) (by decide +kernel) : Ap .f32 (cn .f32 0) 0 0).w (by show (0 : Rat) ≤ ((0 : Nat) : Rat) * e1; have : ((0 : Nat) : Rat) = 0 := rfl; grind)
  | n + 1, hn => by
    have ih := sumF_near Y v h hv hl hB hE h0 h9 n (by omega)
    rw [List.take_succ_eq_append_getElem (by omega), sumF_snoc]
    have B0 : 0 ≤ B := Rat.le_trans (ab_nonneg _) (hv 0)
    obtain ⟨n9, n0⟩ := nat_cast9 (k := n) (by omega)
    obtain ⟨m9, m0⟩ := nat_cast9 (k := n + 1) (by omega)
    have sb : ∀ m : Nat, ab (sumN v m) ≤ (m : Rat) * B := fun m => by
      induction m with
      | zero => show ab 0 ≤ ((0 : Nat) : Rat) * B; have : ((0 : Nat) : Rat) = 0 := rfl; rw [this, ab_zero]; grind
      | succ m ih =>
        have t := ab_add (sumN v m) (v m)
        have := hv m
        rw [nat_succ]
        show ab (sumN v m + v m) ≤ _
        grind
    have s1 := sb (n + 1)
    obtain ⟨e0, Ee⟩ := le3 hE h0 (Rat.mul_nonneg (ep_nn .f32) (show 0 ≤ 9 * B + 1 + 1 by grind))
    have p1 := Rat.mul_le_mul_of_nonneg_right m9 B0
    have p2 := Rat.mul_le_mul_of_nonneg_right m9 e0
    rw [nat_succ] at p2 ⊢
    have A := (ih.add (9 * B + 1) (h n (by omega)) (by
      show ab (sumN v (n + 1)) + _ ≤ _
      grind) (by grind)).2
    exact A.w (by grind)
/-! The slope. -/
def yr (Y : List Nat) (k : Nat) : Rat := rv .f32 (Y.getD k 0)
def xy (n : Nat) (xv : Nat → Rat) (Y : List Nat) (k : Nat) : Rat := if k < n then xv k * yr Y k else 0
def y0 (n : Nat) (Y : List Nat) (k : Nat) : Rat := if k < n then yr Y k else 0
theorem yr_eq {Y : List Nat} {i : Nat} (h : i < Y.length) : yr Y i = rv .f32 Y[i] := by
  unfold yr
  rw [List.getD_eq_getElem?_getD, List.getElem?_eq_getElem h]
  rfl
theorem sum_b9 (v : Nat → Rat) {B : Rat} (hv : ∀ i, ab (v i) ≤ B) (hB : 0 ≤ B) {n : Nat} (hn : n ≤ 9) : ab (sumN v n) ≤ 9 * B := by
  have sb : ∀ m : Nat, ab (sumN v m) ≤ (m : Rat) * B := fun m => by
    induction m with
    | zero => show ab 0 ≤ ((0 : Nat) : Rat) * B; have : ((0 : Nat) : Rat) = 0 := rfl; rw [this, ab_zero]; grind
    | succ m ih =>
      have t := ab_add (sumN v m) (v m)
      have := hv m
      rw [nat_succ]
      show ab (sumN v m + v m) ≤ _
      grind
  have s := sb n
  have p := Rat.mul_le_mul_of_nonneg_right (nat_cast9 hn).1 hB
  grind
theorem prods_get {X Y : List Nat} {n i : Nat} (hX : X.length = n) (hY : Y.length = n) (h : i < (prods X Y n).length) : ∃ (h1 : i < X.length) (h2 : i < Y.length), (prods X Y n)[i] = fop .mul .f32 X[i] Y[i] := by
  have hi : i < n := by simpa [prods] using h
  have h1 : i < X.length := by omega
  have h2 : i < Y.length := by omega
  refine ⟨h1, h2, ?_⟩
  have hx : (prods X Y n)[i]? = some (fop .mul .f32 X[i] Y[i]) := by
    unfold prods
    rw [List.getElem?_map, List.getElem?_range hi, Option.map_some, List.getD_eq_getElem?_getD, List.getD_eq_getElem?_getD, List.getElem?_eq_getElem h1, List.getElem?_eq_getElem h2]
    rfl
  rw [List.getElem?_eq_getElem h] at hx
  exact Option.some.inj hx
theorem slope_gen {X Y : List Nat} {n : Nat} (xv : Nat → Rat) (a e : Rat) (hX : X.length = n) (hl : Y.length = n) (hn : n ≤ 9) (hx : ∀ i (h : i < X.length), Ap .f32 X[i] (xv i) 0 ∧ ab (xv i) ≤ 23 / 10) (hY : ∀ i (h : i < Y.length), isF .f32 Y[i] ∧ ab (rv .f32 Y[i]) ≤ 9)
    (ha : Ap .f32 (sumF X) a 0) (hab : ab a ≤ 13) (he : isF .f32 (slE X)) (hev : rv .f32 (slE X) = e) (h4 : 4 ≤ e) (hN : Ap .f32 (slN n) (n : Rat) 0) :
    Ap .f32 (slS X Y) (((n : Rat) * sumN (xy n xv Y) n - a * sumN (y0 n Y) n) / e) (2 / 1000) := by
  have K9 := nat_cast9 hn
  have hy : ∀ i (h : i < Y.length), Ap .f32 Y[i] (y0 n Y i) 0 ∧ ab (y0 n Y i) ≤ 9 := fun i h => by
    have e : y0 n Y i = rv .f32 Y[i] := by unfold y0; rw [if_pos (by omega), yr_eq h]
    rw [e]
    exact ⟨Ap.self (hY i h).1, (hY i h).2⟩
  have hyb : ∀ i, ab (y0 n Y i) ≤ 9 := fun i => by
    by_cases h : i < Y.length
    · exact (hy i h).2
    · unfold y0; rw [if_neg (by omega), ab_zero]; decide +kernel
  have SY := sumF_near Y (y0 n Y) (E := 0) (B := 9) (e1 := 2 / 100000) (fun i h => (hy i h).1) hyb (by omega) (by decide +kernel) (by decide +kernel) (by decide +kernel) (by decide +kernel) Y.length (Nat.le_refl _)
  rw [List.take_length, hl] at SY
  have hpl : (prods X Y n).length = n := by simp [prods]
  have hpr : ∀ i (h : i < (prods X Y n).length), Ap .f32 (prods X Y n)[i] (xy n xv Y i) (4 / 1000000) := fun i h => by
    obtain ⟨h1, h2, e1⟩ := prods_get hX hl h
    obtain ⟨x1, x2⟩ := hx i h1
    have e2 : xy n xv Y i = xv i * rv .f32 Y[i] := by unfold xy; rw [if_pos (by omega), yr_eq h2]
    rw [e1, e2]
    have M := (x1.mul (23 / 10) 9 21 (Ap.self (hY i h2).1) x2 (hY i h2).2 (by decide +kernel) (by decide +kernel)).2
    exact M.w (by decide +kernel)
  have hxb : ∀ i, ab (xy n xv Y i) ≤ 21 := fun i => by
    by_cases h : i < n
    · have m := mul_sm (hx i (by omega)).2 (hyb i)
      have : xy n xv Y i = xv i * y0 n Y i := by unfold xy y0; rw [if_pos h, if_pos h]
      rw [this]
      exact Rat.le_trans m (by decide +kernel)
    · unfold xy; rw [if_neg h, ab_zero]; decide +kernel
  have SD := sumF_near (prods X Y n) (xy n xv Y) (E := 4 / 1000000) (B := 21) (e1 := 4 / 100000) hpr hxb (by omega) (by decide +kernel) (by decide +kernel) (by decide +kernel) (by decide +kernel) _ (Nat.le_refl _)
  rw [List.take_length, hpl] at SD
  have bD := sum_b9 (xy n xv Y) hxb (by decide +kernel) hn
  have bY := sum_b9 (y0 n Y) hyb (by decide +kernel) hn
  have p1 := Rat.mul_le_mul_of_nonneg_right K9.1 (show (0 : Rat) ≤ 4 / 100000 by decide +kernel)
  have p2 := Rat.mul_le_mul_of_nonneg_right K9.1 (show (0 : Rat) ≤ 2 / 100000 by decide +kernel)
  have SD' := SD.w (Rat.le_trans p1 (show (9 : Rat) * (4 / 100000) ≤ 36 / 100000 by decide +kernel))
  have SY' := SY.w (Rat.le_trans p2 (show (9 : Rat) * (2 / 100000) ≤ 18 / 100000 by decide +kernel))
  have hn9 : ab (n : Rat) ≤ 9 := by rw [ab_of_nonneg K9.2]; exact K9.1
  have bD' : ab (sumN (xy n xv Y) n) ≤ 189 := Rat.le_trans bD (by decide +kernel)
  have bY' : ab (sumN (y0 n Y) n) ≤ 81 := Rat.le_trans bY (by decide +kernel)
  have ND := (hN.mul 9 189 1800 SD' hn9 bD' (by decide +kernel) (by decide +kernel)).2
  have AB := (ha.mul 13 81 1100 SY' hab bY' (by decide +kernel) (by decide +kernel)).2
  have m1 := mul_sm hn9 bD'
  have m2 := mul_sm hab bY'
  have ND' := ND.w (F := 36 / 10000) (by decide +kernel)
  have AB' := AB.w (F := 25 / 10000) (by decide +kernel)
  have hs : slS X Y = fop .quo .f32 (fop .sub .f32 (fop .mul .f32 (slN n) (sumF (prods X Y n))) (fop .mul .f32 (sumF X) (sumF Y))) (slE X) := by
    unfold slS
    rw [hX]
  rw [hs]
  generalize (n : Rat) * sumN (xy n xv Y) n = N at *
  generalize a * sumN (y0 n Y) n = M at *
  have bb : ab (N - M) ≤ 2800 := by
    obtain ⟨a1, a2⟩ := ab_both m1
    obtain ⟨a3, a4⟩ := ab_both m2
    clear ND' AB' ND AB SY SD SD' SY' hs m1 m2 bD bY bD' bY' p1 p2 hxb hpr hyb hy hx hY ha hN
    apply ab_le <;> grind
  have SS := (ND'.sub 2801 AB' (Rat.le_trans (show _ ≤ (2800 : Rat) + (36 / 10000 + 25 / 10000) from by
    have := bb
    generalize ab (N - M) = q at *
    clear ND' AB' ND AB SY SD SD' SY' hs m1 m2 bD bY bD' bY' p1 p2 hxb hpr hyb hy hx hY ha hN
    grind) (by decide +kernel)) (by decide +kernel)).2
  have SS' := SS.w (F := 65 / 10000) (by decide +kernel)
  have Q := (SS'.quo 2801 he hev (by
    clear ND' AB' ND AB SY SD SD' SY' hs m1 m2 bD bY bD' bY' p1 p2 hxb hpr hyb hy hx hY ha hN SS SS'
    grind) (Rat.le_trans (show _ ≤ (2800 : Rat) + 65 / 10000 from by
    have := bb
    generalize ab (N - M) = q at *
    clear ND' AB' ND AB SY SD SD' SY' hs m1 m2 bD bY bD' bY' p1 p2 hxb hpr hyb hy hx hY ha hN SS SS'
    grind) (by decide +kernel)) (by decide +kernel)).2
  have t : (65 / 10000 : Rat) / e ≤ 65 / 40000 := by
    have hi : (1 / e) * e = 1 := Rat.div_mul_cancel (by
      clear ND' AB' ND AB SY SD SD' SY' hs m1 m2 bD bY bD' bY' p1 p2 hxb hpr hyb hy hx hY ha hN SS SS' Q
      grind)
    have h0 := div_nn (k := e) (a := 1) (by
      clear ND' AB' ND AB SY SD SD' SY' hs m1 m2 bD bY bD' bY' p1 p2 hxb hpr hyb hy hx hY ha hN SS SS' Q
      grind) (by decide)
    have := Rat.mul_le_mul_of_nonneg_left h4 h0
    rw [Rat.div_def]
    rw [Rat.div_def, Rat.one_mul] at hi h0 this
    clear ND' AB' ND AB SY SD SD' SY' hs m1 m2 bD bY bD' bY' p1 p2 hxb hpr hyb hy hx hY ha hN SS SS' Q
    generalize (e)⁻¹ = i at *
    grind
  have e32 : ep .f32 * (2801 + 1) ≤ 36 / 100000 := by decide +kernel
  refine Q.w ?_
  generalize (65 / 10000 : Rat) / e = q at *
  generalize ep .f32 * (2801 + 1) = r at *
  clear ND' AB' ND AB SY SD SD' SY' hs m1 m2 bD bY bD' bY' p1 p2 hxb hpr hyb hy hx hY ha hN SS SS' Q
  grind
/-! The logarithms of 1, 2, 3 .. -/
def xr (k : Nat) : Rat := rv .f32 (logF (cn .f32 (floatOfInt .f32 ((k + 1 : Nat) : Int))))
def xB (k : Nat) : Bool := isFb .f32 (logF (cn .f32 (floatOfInt .f32 ((k + 1 : Nat) : Int)))) && decide (ab (xr k) ≤ 23 / 10)
theorem x_all : ∀ k, k < 9 → xB k = true := by decide +kernel
theorem x_ok {k : Nat} (h : k < 9) : isF .f32 (logF (cn .f32 (floatOfInt .f32 ((k + 1 : Nat) : Int)))) ∧ ab (xr k) ≤ 23 / 10 := by
  have a := x_all k h
  unfold xB at a
  simp only [Bool.and_eq_true, decide_eq_true_eq] at a
  exact ⟨isF_of a.1, a.2⟩
theorem xN_ok {n i : Nat} (h : i < (logN n).length) (hn : n ≤ 9) : Ap .f32 (logN n)[i] (xr i) 0 ∧ ab (xr i) ≤ 23 / 10 := by
  have hi : i < n := by rw [logN_len] at h; exact h
  obtain ⟨a, b⟩ := x_ok (k := i) (by omega)
  have e : (logN n)[i] = logF (cn .f32 (floatOfInt .f32 ((i + 1 : Nat) : Int))) := by
    have hx : (logN n)[i]? = some (logF (cn .f32 (floatOfInt .f32 ((i + 1 : Nat) : Int)))) := by
      unfold logN
      rw [List.getElem?_map, List.getElem?_range hi]
      rfl
    rw [List.getElem?_eq_getElem h] at hx
    exact Option.some.inj hx
  rw [e]
  exact ⟨Ap.self a, b⟩
def s1 (b : Nat) : Rat := rv .f32 (sumF (logN (b + 4)))
def eE (b : Nat) : Rat := rv .f32 (slE (logN (b + 4)))
def eB (b : Nat) : Bool := isFb .f32 (sumF (logN (b + 4))) && decide (ab (s1 b) ≤ 13) && isFb .f32 (slE (logN (b + 4))) && decide (4 ≤ eE b) && isFb .f32 (slN (b + 4)) && decide (rv .f32 (slN (b + 4)) = ((b + 4 : Nat) : Rat))
theorem e_all : ∀ b, b < 6 → eB b = true := by decide +kernel
structure EF (b : Nat) : Prop where
  s : isF .f32 (sumF (logN (b + 4)))
  sb : ab (s1 b) ≤ 13
  e : isF .f32 (slE (logN (b + 4)))
  eb : 4 ≤ eE b
  n : isF .f32 (slN (b + 4))
  nv : rv .f32 (slN (b + 4)) = ((b + 4 : Nat) : Rat)
theorem e_ok {b : Nat} (h : b < 6) : EF b := by
  have a := e_all b h
  unfold eB at a
  simp only [Bool.and_eq_true, decide_eq_true_eq] at a
  obtain ⟨⟨⟨⟨⟨a1, a2⟩, a3⟩, a4⟩, a5⟩, a6⟩ := a
  exact ⟨isF_of a1, a2, isF_of a3, a4, isF_of a5, a6⟩
theorem slope_near {Y : List Nat} {b : Nat} (hb : b < 6) (hl : Y.length = b + 4) (hY : ∀ i (h : i < Y.length), isF .f32 Y[i] ∧ ab (rv .f32 Y[i]) ≤ 9) :
    Ap .f32 (slS (logN (b + 4)) Y) ((((b + 4 : Nat) : Rat) * sumN (xy (b + 4) xr Y) (b + 4) - s1 b * sumN (y0 (b + 4) Y) (b + 4)) / eE b) (2 / 1000) := by
  have E := e_ok hb
  exact slope_gen xr (s1 b) (eE b) (logN_len _) hl (by omega) (fun i h => xN_ok h (by omega)) hY (Ap.exact E.s rfl) E.sb E.e rfl E.eb (Ap.exact E.n E.nv)
end Go.Proofs.Ytamgekijihpgkaa
