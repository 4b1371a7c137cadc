/- Several texts in one: Qa, Qb, Qc, Qd. -/
import Derived.Test.YtamgekijihpgkaaGx
/- Polynomials over the rational numbers, told by lists; the sine's series; its addition theorem, nearly, by the kernel. Plain. -/
namespace Go.Proofs.Ytamgekijihpgkaa
open Go.RowKit Ieee

/-- The value of a polynomial. -/
def pe : List Rat → Rat → Rat
  | [], _ => 0
  | c :: p, x => c + x * pe p x
def padd : List Rat → List Rat → List Rat
  | [], q => q
  | a :: p, [] => a :: p
  | a :: p, b :: q => (a + b) :: padd p q
def psc (c : Rat) : List Rat → List Rat
  | [] => []
  | a :: p => (c * a) :: psc c p
def pmul : List Rat → List Rat → List Rat
  | [], _ => []
  | a :: p, q => padd (psc a q) (0 :: pmul p q)
theorem pe_add : ∀ (p q : List Rat) (x : Rat), pe (padd p q) x = pe p x + pe q x
  | [], q, x => by show pe q x = 0 + pe q x; grind
  | a :: p, [], x => by show pe (a :: p) x = pe (a :: p) x + 0; grind
  | a :: p, b :: q, x => by
    have h := pe_add p q x
    show a + b + x * pe (padd p q) x = (a + x * pe p x) + (b + x * pe q x)
    rw [h]; grind
theorem pe_sc : ∀ (c : Rat) (p : List Rat) (x : Rat), pe (psc c p) x = c * pe p x
  | c, [], x => by show (0 : Rat) = c * 0; grind
  | c, a :: p, x => by
    have h := pe_sc c p x
    show c * a + x * pe (psc c p) x = c * (a + x * pe p x)
    rw [h]; grind
theorem pe_mul : ∀ (p q : List Rat) (x : Rat), pe (pmul p q) x = pe p x * pe q x
  | [], q, x => by show (0 : Rat) = 0 * pe q x; grind
  | a :: p, q, x => by
    have h := pe_mul p q x
    show pe (padd (psc a q) (0 :: pmul p q)) x = (a + x * pe p x) * pe q x
    rw [pe_add, pe_sc]
    show a * pe q x + (0 + x * pe (pmul p q) x) = _
    rw [h]; grind
/-- p of c + s x. -/
def plin (c s : Rat) : List Rat → List Rat
  | [] => []
  | a :: p => padd [a] (padd (psc c (plin c s p)) (0 :: psc s (plin c s p)))
theorem pe_lin (c s : Rat) : ∀ (p : List Rat) (x : Rat), pe (plin c s p) x = pe p (c + s * x)
  | [], x => rfl
  | a :: p, x => by
    have h := pe_lin c s p x
    show pe (padd [a] (padd (psc c (plin c s p)) (0 :: psc s (plin c s p)))) x = a + (c + s * x) * pe p (c + s * x)
    rw [pe_add, pe_add, pe_sc]
    show (a + x * 0) + (c * pe (plin c s p) x + (0 + x * pe (psc s (plin c s p)) x)) = _
    rw [pe_sc, h]; grind
def pab : List Rat → List Rat
  | [] => []
  | a :: p => ab a :: pab p
theorem ab_mono {x X p P : Rat} (h1 : ab x ≤ X) (h2 : ab p ≤ P) : ab (x * p) ≤ X * P := by
  rw [ab_mul]
  have a := Rat.mul_le_mul_of_nonneg_right h1 (ab_nonneg p)
  have b := Rat.mul_le_mul_of_nonneg_left h2 (Rat.le_trans (ab_nonneg x) h1)
  exact Rat.le_trans a b
theorem pe_bd {x X : Rat} (h : ab x ≤ X) : ∀ p : List Rat, ab (pe p x) ≤ pe (pab p) X
  | [] => by show ab 0 ≤ 0; rw [ab_zero]; exact Rat.le_refl
  | a :: p => by
    have i := ab_mono h (pe_bd h p)
    have t := ab_add a (x * pe p x)
    show ab (a + x * pe p x) ≤ ab a + X * pe (pab p) X
    grind
/-! In two variables. -/
def be : List (List Rat) → Rat → Rat → Rat
  | [], _, _ => 0
  | c :: P, x, y => pe c y + x * be P x y
def badd : List (List Rat) → List (List Rat) → List (List Rat)
  | [], Q => Q
  | a :: P, [] => a :: P
  | a :: P, b :: Q => padd a b :: badd P Q
theorem be_add : ∀ (P Q : List (List Rat)) (x y : Rat), be (badd P Q) x y = be P x y + be Q x y
  | [], Q, x, y => by show be Q x y = 0 + be Q x y; grind
  | a :: P, [], x, y => by show be (a :: P) x y = be (a :: P) x y + 0; grind
  | a :: P, b :: Q, x, y => by
    have h := be_add P Q x y
    show pe (padd a b) y + x * be (badd P Q) x y = (pe a y + x * be P x y) + (pe b y + x * be Q x y)
    rw [h, pe_add]; grind
def bY : List (List Rat) → List (List Rat)
  | [] => []
  | a :: P => (0 :: a) :: bY P
theorem be_Y : ∀ (P : List (List Rat)) (x y : Rat), be (bY P) x y = y * be P x y
  | [], x, y => by show (0 : Rat) = y * 0; grind
  | a :: P, x, y => by
    have h := be_Y P x y
    show (0 + y * pe a y) + x * be (bY P) x y = y * (pe a y + x * be P x y)
    rw [h]; grind
/-- p of x + y. -/
def tay : List Rat → List (List Rat)
  | [] => []
  | a :: p => badd [[a]] (badd ([] :: tay p) (bY (tay p)))
theorem be_tay : ∀ (p : List Rat) (x y : Rat), be (tay p) x y = pe p (x + y)
  | [], x, y => rfl
  | a :: p, x, y => by
    have h := be_tay p x y
    show be (badd [[a]] (badd ([] :: tay p) (bY (tay p)))) x y = a + (x + y) * pe p (x + y)
    rw [be_add, be_add, be_Y]
    show ((a + y * 0) + x * 0) + ((0 + x * be (tay p) x y) + y * be (tay p) x y) = _
    rw [h]; grind
/-- c p of x times q of y. -/
def bout (c : Rat) (q : List Rat) : List Rat → List (List Rat)
  | [] => []
  | a :: p => psc (c * a) q :: bout c q p
theorem be_out (c : Rat) (q : List Rat) : ∀ (p : List Rat) (x y : Rat), be (bout c q p) x y = c * (pe p x * pe q y)
  | [], x, y => by show (0 : Rat) = c * (0 * pe q y); grind
  | a :: p, x, y => by
    have h := be_out c q p x y
    show pe (psc (c * a) q) y + x * be (bout c q p) x y = c * ((a + x * pe p x) * pe q y)
    rw [h, pe_sc]; grind
def bab : List (List Rat) → List (List Rat)
  | [] => []
  | a :: P => pab a :: bab P
theorem be_bd {x X y Y : Rat} (hx : ab x ≤ X) (hy : ab y ≤ Y) : ∀ P : List (List Rat), ab (be P x y) ≤ be (bab P) X Y
  | [] => by show ab 0 ≤ 0; rw [ab_zero]; exact Rat.le_refl
  | a :: P => by
    have i := ab_mono hx (be_bd hx hy P)
    have j := pe_bd hy a
    have t := ab_add (pe a y) (x * be P x y)
    show ab (pe a y + x * be P x y) ≤ pe (pab a) Y + X * be (bab P) X Y
    grind
/-! The sine's series, of turns. -/
def tau : Rat := rv .f64 4618760256179416344
def sK (j : Nat) : Rat := ((2 * (8 - (j : Int)) * (2 * (8 - (j : Int)) + 1) : Int) : Rat)
def sR (u : Rat) : Nat → Rat
  | 0 => 1
  | j + 1 => 1 - u * sR u j / sK j
def sA (x : Rat) : Rat := tau * x * sR (tau * x * (tau * x)) 8
def sRl (u : List Rat) : Nat → List Rat
  | 0 => [1]
  | j + 1 => padd [1] (psc (-(1 / sK j)) (pmul u (sRl u j)))
theorem sRl_ok (u : List Rat) (x : Rat) : ∀ j, pe (sRl u j) x = sR (pe u x) j
  | 0 => by show (1 : Rat) + x * 0 = 1; grind
  | j + 1 => by
    have h := sRl_ok u x j
    show pe (padd [1] (psc (-(1 / sK j)) (pmul u (sRl u j)))) x = 1 - pe u x * sR (pe u x) j / sK j
    rw [pe_add, pe_sc, pe_mul, h, Rat.div_def, Rat.div_def]
    show (1 + x * 0) + _ = _
    grind
def aL : List Rat := pmul [0, tau] (sRl [0, 0, tau * tau] 8)
theorem aL_ok (x : Rat) : pe aL x = sA x := by
  unfold aL sA
  rw [pe_mul, sRl_ok]
  have e1 : pe [0, tau] x = tau * x := by show (0 : Rat) + x * (tau + x * 0) = _; grind
  have e2 : pe [0, 0, tau * tau] x = tau * x * (tau * x) := by show (0 : Rat) + x * (0 + x * (tau * tau + x * 0)) = _; grind
  rw [e1, e2]
end Go.Proofs.Ytamgekijihpgkaa

/- The addition theorem of the sine's series, nearly; a quarter's symmetry; the circle. By the kernel. Plain. -/
namespace Go.Proofs.Ytamgekijihpgkaa
open Go.RowKit Ieee

theorem rle {a b : Rat} (h : a = b) : a ≤ b := by rw [h]; exact Rat.le_refl
def aN : Rat := 1 / 1000000
/-- The series of a quarter less x, and others. -/
def bL : List Rat := plin (1 / 4) (-1) aL
def b2L : List Rat := plin (1 / 4) 1 aL
def cL : List Rat := plin (1 / 8) (-1) aL
def dL : List Rat := plin (1 / 8) 1 aL
theorem lin_ok (c s x : Rat) : pe (plin c s aL) x = sA (c + s * x) := by rw [pe_lin, aL_ok]
theorem k_add : decide (be (bab (badd (tay aL) (badd (bout (-1) bL aL) (bout (-1) aL bL)))) (26 / 100) (26 / 100) ≤ aN) = true := by decide +kernel
theorem k_add2 : decide (be (bab (badd (tay aL) (badd (bout 1 cL cL) (bout (-1) dL dL)))) (135 / 1000) (135 / 1000) ≤ aN) = true := by decide +kernel
theorem k_ev : decide (pe (pab (padd bL (psc (-1) b2L))) (26 / 100) ≤ aN) = true := by decide +kernel
theorem k_one : decide (pe (pab (padd [-1] (padd (pmul aL aL) (pmul bL bL)))) (26 / 100) ≤ aN) = true := by decide +kernel
theorem k_lip : decide (be (bab (badd (tay aL) (bout (-1) [1] aL))) (52 / 100) (1 / 1000000000) ≤ aN) = true := by decide +kernel
theorem k_bd : decide (pe (pab aL) (26 / 100) ≤ 3) = true := by decide +kernel
theorem sA_neg (x : Rat) : sA (-x) = -sA x := by
  unfold sA
  have e : tau * -x * (tau * -x) = tau * x * (tau * x) := by grind
  rw [e]
  generalize sR (tau * x * (tau * x)) 8 = r
  grind
theorem A_add {x y : Rat} (hx : ab x ≤ 26 / 100) (hy : ab y ≤ 26 / 100) : ab (sA (x + y) - (sA x * sA (1 / 4 - y) + sA (1 / 4 - x) * sA y)) ≤ aN := by
  have h := be_bd hx hy (badd (tay aL) (badd (bout (-1) bL aL) (bout (-1) aL bL)))
  rw [be_add, be_add, be_tay, be_out, be_out] at h
  unfold bL at h
  rw [lin_ok, lin_ok, aL_ok, aL_ok, aL_ok] at h
  have k := of_decide_eq_true k_add
  have e1 : (1 : Rat) / 4 + -1 * x = 1 / 4 - x := by grind
  have e2 : (1 : Rat) / 4 + -1 * y = 1 / 4 - y := by grind
  rw [e1, e2] at h
  refine Rat.le_trans ?_ k
  refine Rat.le_trans ?_ h
  apply rle
  congr 1
  grind
theorem A_add2 {x y : Rat} (hx1 : -1 / 100 ≤ x) (hx2 : x ≤ 26 / 100) (hy1 : -1 / 100 ≤ y) (hy2 : y ≤ 26 / 100) : ab (sA (1 / 4 - (x + y)) - (sA (1 / 4 - x) * sA (1 / 4 - y) - sA x * sA y)) ≤ aN := by
  have h := be_bd (x := x - 1 / 8) (y := y - 1 / 8) (X := 135 / 1000) (Y := 135 / 1000) (by apply ab_le <;> grind) (by apply ab_le <;> grind) (badd (tay aL) (badd (bout 1 cL cL) (bout (-1) dL dL)))
  rw [be_add, be_add, be_tay, be_out, be_out] at h
  unfold cL dL at h
  rw [lin_ok, lin_ok, lin_ok, lin_ok, aL_ok] at h
  have k := of_decide_eq_true k_add2
  have e1 : (1 : Rat) / 8 + -1 * (x - 1 / 8) = 1 / 4 - x := by grind
  have e2 : (1 : Rat) / 8 + -1 * (y - 1 / 8) = 1 / 4 - y := by grind
  have e3 : (1 : Rat) / 8 + 1 * (x - 1 / 8) = x := by grind
  have e4 : (1 : Rat) / 8 + 1 * (y - 1 / 8) = y := by grind
  have e5 : x - 1 / 8 + (y - 1 / 8) = -(1 / 4 - (x + y)) := by grind
  rw [e1, e2, e3, e4, e5, sA_neg] at h
  refine Rat.le_trans ?_ k
  refine Rat.le_trans ?_ h
  rw [← ab_neg]
  apply rle
  congr 1
  grind
theorem A_ev {v : Rat} (h : ab v ≤ 26 / 100) : ab (sA (1 / 4 - v) - sA (1 / 4 + v)) ≤ aN := by
  have h := pe_bd h (padd bL (psc (-1) b2L))
  rw [pe_add, pe_sc] at h
  unfold bL b2L at h
  rw [lin_ok, lin_ok] at h
  have e1 : (1 : Rat) / 4 + -1 * v = 1 / 4 - v := by grind
  have e2 : (1 : Rat) / 4 + 1 * v = 1 / 4 + v := by grind
  rw [e1, e2] at h
  refine Rat.le_trans ?_ (of_decide_eq_true k_ev)
  refine Rat.le_trans ?_ h
  apply rle
  congr 1
  grind
theorem A_one {x : Rat} (h : ab x ≤ 26 / 100) : ab (sA x * sA x + sA (1 / 4 - x) * sA (1 / 4 - x) - 1) ≤ aN := by
  have h := pe_bd h (padd [-1] (padd (pmul aL aL) (pmul bL bL)))
  rw [pe_add, pe_add, pe_mul, pe_mul] at h
  unfold bL at h
  rw [lin_ok, aL_ok] at h
  have e1 : (1 : Rat) / 4 + -1 * x = 1 / 4 - x := by grind
  have e2 : pe [-1] x = -1 := by show (-1 : Rat) + x * 0 = -1; grind
  rw [e1, e2] at h
  refine Rat.le_trans ?_ (of_decide_eq_true k_one)
  refine Rat.le_trans ?_ h
  apply rle
  congr 1
  grind
theorem A_lip {x e : Rat} (hx : ab x ≤ 52 / 100) (he : ab e ≤ 1 / 1000000000) : ab (sA (x + e) - sA x) ≤ aN := by
  have h := be_bd hx he (badd (tay aL) (bout (-1) [1] aL))
  rw [be_add, be_tay, be_out, aL_ok, aL_ok] at h
  have e2 : pe [1] e = 1 := by show (1 : Rat) + e * 0 = 1; grind
  rw [e2] at h
  refine Rat.le_trans ?_ (of_decide_eq_true k_lip)
  refine Rat.le_trans ?_ h
  apply rle
  congr 1
  grind
theorem A_bd {x : Rat} (h : ab x ≤ 26 / 100) : ab (sA x) ≤ 3 := by
  have h := pe_bd h aL
  rw [aL_ok] at h
  exact Rat.le_trans h (of_decide_eq_true k_bd)
end Go.Proofs.Ytamgekijihpgkaa

/- Quarters and the rest: the point of the circle at some turns, over the rational numbers; turns added up. Plain. -/
namespace Go.Proofs.Ytamgekijihpgkaa
open Go.RowKit Ieee

def iC (q : Int) : Rat := if q % 4 = 0 then 1 else if q % 4 = 2 then -1 else 0
def iS (q : Int) : Rat := if q % 4 = 1 then 1 else if q % 4 = 3 then -1 else 0
theorem iCS (q : Int) : (q % 4 = 0 ∧ iC q = 1 ∧ iS q = 0) ∨ (q % 4 = 1 ∧ iC q = 0 ∧ iS q = 1) ∨ (q % 4 = 2 ∧ iC q = -1 ∧ iS q = 0) ∨ (q % 4 = 3 ∧ iC q = 0 ∧ iS q = -1) := by
  unfold iC iS
  have h : q % 4 = 0 ∨ q % 4 = 1 ∨ q % 4 = 2 ∨ q % 4 = 3 := by omega
  rcases h with h | h | h | h <;> simp [h]
theorem iCS_of {q p : Int} (h : q % 4 = p % 4) : iC q = iC p ∧ iS q = iS p := by unfold iC iS; rw [h]; exact ⟨rfl, rfl⟩
theorem iCS_add (p q : Int) : iC (p + q) = iC p * iC q - iS p * iS q ∧ iS (p + q) = iS p * iC q + iC p * iS q := by
  rcases iCS p with ⟨h, a, b⟩ | ⟨h, a, b⟩ | ⟨h, a, b⟩ | ⟨h, a, b⟩ <;> rcases iCS q with ⟨h', a', b'⟩ | ⟨h', a', b'⟩ | ⟨h', a', b'⟩ | ⟨h', a', b'⟩ <;> rcases iCS (p + q) with ⟨h'', a'', b''⟩ | ⟨h'', a'', b''⟩ | ⟨h'', a'', b''⟩ | ⟨h'', a'', b''⟩ <;>
  first
  | (exfalso; omega)
  | (rw [a, b, a', b', a'', b'']; constructor <;> grind)
/-- The point of the circle: q quarters and f. -/
def vC (q : Int) (f : Rat) : Rat := iC q * sA (1 / 4 - f) - iS q * sA f
def vS (q : Int) (f : Rat) : Rat := iS q * sA (1 / 4 - f) + iC q * sA f
theorem rot_err {i j c s C S e : Rat} (hi : (i = 1 ∧ j = 0) ∨ (i = 0 ∧ j = 1) ∨ (i = -1 ∧ j = 0) ∨ (i = 0 ∧ j = -1)) (h1 : ab (c - C) ≤ e) (h2 : ab (s - S) ≤ e) : ab (i * c - j * s - (i * C - j * S)) ≤ e ∧ ab (j * c + i * s - (j * C + i * S)) ≤ e := by
  obtain ⟨a1, a2⟩ := ab_both h1
  obtain ⟨b1, b2⟩ := ab_both h2
  rcases hi with ⟨rfl, rfl⟩ | ⟨rfl, rfl⟩ | ⟨rfl, rfl⟩ | ⟨rfl, rfl⟩ <;> constructor <;> apply ab_le <;> grind
theorem iCS_r (q : Int) : (iC q = 1 ∧ iS q = 0) ∨ (iC q = 0 ∧ iS q = 1) ∨ (iC q = -1 ∧ iS q = 0) ∨ (iC q = 0 ∧ iS q = -1) := by
  rcases iCS q with ⟨_, a, b⟩ | ⟨_, a, b⟩ | ⟨_, a, b⟩ | ⟨_, a, b⟩ <;> simp [a, b]
theorem aN_pos : 0 ≤ aN := by decide +kernel
/-- Step 1: f + g, and a little. -/
theorem sum_near {f g e : Rat} (f0 : 0 ≤ f) (f1 : f ≤ 1 / 4) (g0 : 0 ≤ g) (g1 : g ≤ 1 / 4) (he : ab e ≤ 1 / 1000000000) :
    ab (sA (1 / 4 - (f + g + e)) - (sA (1 / 4 - f) * sA (1 / 4 - g) - sA f * sA g)) ≤ 2 * aN ∧ ab (sA (f + g + e) - (sA f * sA (1 / 4 - g) + sA (1 / 4 - f) * sA g)) ≤ 2 * aN := by
  have A1 := A_add (x := f) (y := g) (by apply ab_le <;> grind) (by apply ab_le <;> grind)
  have A2 := A_add2 (x := f) (y := g) (by grind) (by grind) (by grind) (by grind)
  have L1 := A_lip (x := f + g) (e := e) (by apply ab_le <;> grind) he
  have L2 := A_lip (x := 1 / 4 - (f + g)) (e := -e) (by apply ab_le <;> grind) (by rw [ab_neg]; exact he)
  have e1 : 1 / 4 - (f + g) + -e = 1 / 4 - (f + g + e) := by grind
  rw [e1] at L2
  obtain ⟨a1, a2⟩ := ab_both A1
  obtain ⟨b1, b2⟩ := ab_both A2
  obtain ⟨c1, c2⟩ := ab_both L1
  obtain ⟨d1, d2⟩ := ab_both L2
  constructor <;> apply ab_le <;> grind
/-- Step 2: d quarters less. -/
theorem quarter_near {W r : Rat} {d : Int} (hd : d = -1 ∨ d = 0 ∨ d = 1 ∨ d = 2) (r0 : 0 ≤ r) (r1 : r ≤ 1 / 4) (hW0 : -1 / 100 ≤ W) (hW1 : W ≤ 51 / 100) (h : r = W - (d : Rat) / 4) : ab (vC d r - sA (1 / 4 - W)) ≤ aN ∧ ab (vS d r - sA W) ≤ aN := by
  have z := aN_pos
  have z0 : ab 0 ≤ aN := by rw [ab_zero]; exact z
  rcases hd with rfl | rfl | rfl | rfl
  · have hr : r = 1 / 4 + W := by rw [h]; grind
    have E := A_ev (v := W) (by apply ab_le <;> grind)
    have e1 : iC (-1) = 0 ∧ iS (-1) = -1 := by decide
    unfold vC vS
    rw [e1.1, e1.2]
    have e2 : (1 : Rat) / 4 - r = -W := by grind
    have n := sA_neg W
    rw [e2, n, ← hr] at *
    obtain ⟨a1, a2⟩ := ab_both E
    constructor
    · apply ab_le <;> grind
    · have : -1 * -sA W + 0 * sA r - sA W = 0 := by grind
      rw [this]; exact z0
  · have hr : r = W := by rw [h]; grind
    have e1 : iC 0 = 1 ∧ iS 0 = 0 := by decide
    unfold vC vS
    rw [e1.1, e1.2, hr]
    constructor
    · have : 1 * sA (1 / 4 - W) - 0 * sA W - sA (1 / 4 - W) = 0 := by grind
      rw [this]; exact z0
    · have : 0 * sA (1 / 4 - W) + 1 * sA W - sA W = 0 := by grind
      rw [this]; exact z0
  · have hr : r = W - 1 / 4 := by rw [h]; grind
    have E := A_ev (v := r) (by apply ab_le <;> grind)
    have e1 : iC 1 = 0 ∧ iS 1 = 1 := by decide
    unfold vC vS
    rw [e1.1, e1.2]
    have e2 : (1 : Rat) / 4 - W = -r := by grind
    have e3 : (1 : Rat) / 4 + r = W := by grind
    have n := sA_neg r
    rw [e2, n]
    rw [e3] at E
    obtain ⟨a1, a2⟩ := ab_both E
    constructor
    · have : 0 * sA (1 / 4 - r) - 1 * sA r - -sA r = 0 := by grind
      rw [this]; exact z0
    · apply ab_le <;> grind
  · have hr : r = W - 1 / 2 := by rw [h]; grind
    have E := A_ev (v := r) (by apply ab_le <;> grind)
    have E2 := A_ev (v := 1 / 4 + r) (by apply ab_le <;> grind)
    have e1 : iC 2 = -1 ∧ iS 2 = 0 := by decide
    unfold vC vS
    rw [e1.1, e1.2]
    have e2 : (1 : Rat) / 4 - W = -(1 / 4 + r) := by grind
    have e3 : (1 : Rat) / 4 + (1 / 4 + r) = W := by grind
    have e4 : (1 : Rat) / 4 - (1 / 4 + r) = -r := by grind
    have n := sA_neg (1 / 4 + r)
    have m := sA_neg r
    rw [e2, n]
    rw [e3, e4, m] at E2
    obtain ⟨a1, a2⟩ := ab_both E
    obtain ⟨b1, b2⟩ := ab_both E2
    constructor <;> apply ab_le <;> grind
theorem int_of_near {d : Int} {x : Rat} (h : (d : Rat) / 4 = x) (h1 : -26 / 100 ≤ x) (h2 : x ≤ 51 / 100) : d = -1 ∨ d = 0 ∨ d = 1 ∨ d = 2 := by
  have a : (d : Rat) ≤ ((2 : Int) : Rat) + 4 / 100 := by grind
  have b : ((-1 : Int) : Rat) - 4 / 100 ≤ (d : Rat) := by grind
  have c : d < 3 := by
    rcases Int.lt_or_le d 3 with h | h
    · exact h
    · have : ((3 : Int) : Rat) ≤ (d : Rat) := Rat.intCast_le_intCast.2 h
      exfalso; grind
  have c' : -2 < d := by
    rcases Int.lt_or_le (-2) d with h | h
    · exact h
    · have : (d : Rat) ≤ ((-2 : Int) : Rat) := Rat.intCast_le_intCast.2 h
      exfalso; grind
  omega
/-- Turns added up. -/
theorem turn_add {a b q N : Int} {f g r e : Rat} (f0 : 0 ≤ f) (f1 : f ≤ 1 / 4) (g0 : 0 ≤ g) (g1 : g ≤ 1 / 4) (r0 : 0 ≤ r) (r1 : r ≤ 1 / 4) (he : ab e ≤ 1 / 1000000000)
    (h : (q : Rat) / 4 + r = (a : Rat) / 4 + f + ((b : Rat) / 4 + g) + (N : Rat) + e) :
    ab (vC q r - (vC a f * vC b g - vS a f * vS b g)) ≤ 3 * aN ∧ ab (vS q r - (vS a f * vC b g + vC a f * vS b g)) ≤ 3 * aN := by
  obtain ⟨e1, e2⟩ := ab_both he
  obtain ⟨d, hd⟩ : ∃ d : Int, d = q - a - b - 4 * N := ⟨_, rfl⟩
  have hdr : (d : Rat) = (q : Rat) - a - b - 4 * N := by rw [hd]; push_cast; rfl
  have hx : (d : Rat) / 4 = f + g + e - r := by rw [hdr]; grind
  have hc := int_of_near hx (by grind) (by grind)
  obtain ⟨s1, s2⟩ := sum_near f0 f1 g0 g1 he
  obtain ⟨q1, q2⟩ := quarter_near (W := f + g + e) hc r0 r1 (by grind) (by grind) (by grind)
  have h1 : ab (vC d r - (sA (1 / 4 - f) * sA (1 / 4 - g) - sA f * sA g)) ≤ 3 * aN := by
    obtain ⟨x1, x2⟩ := ab_both s1
    obtain ⟨y1, y2⟩ := ab_both q1
    apply ab_le <;> grind
  have h2 : ab (vS d r - (sA f * sA (1 / 4 - g) + sA (1 / 4 - f) * sA g)) ≤ 3 * aN := by
    obtain ⟨x1, x2⟩ := ab_both s2
    obtain ⟨y1, y2⟩ := ab_both q2
    apply ab_le <;> grind
  obtain ⟨t1, t2⟩ := rot_err (iCS_r (a + b)) h1 h2
  have hq := iCS_of (q := q) (p := a + b + d) (by omega)
  obtain ⟨u1, u2⟩ := iCS_add (a + b) d
  obtain ⟨v1, v2⟩ := iCS_add a b
  have k1 : vC q r = iC (a + b) * vC d r - iS (a + b) * vS d r := by
    unfold vC vS
    rw [hq.1, hq.2, u1, u2]
    grind
  have k2 : vS q r = iS (a + b) * vC d r + iC (a + b) * vS d r := by
    unfold vC vS
    rw [hq.1, hq.2, u1, u2]
    grind
  have k3 : vC a f * vC b g - vS a f * vS b g = iC (a + b) * (sA (1 / 4 - f) * sA (1 / 4 - g) - sA f * sA g) - iS (a + b) * (sA f * sA (1 / 4 - g) + sA (1 / 4 - f) * sA g) := by
    unfold vC vS
    rw [v1, v2]
    grind
  have k4 : vS a f * vC b g + vC a f * vS b g = iS (a + b) * (sA (1 / 4 - f) * sA (1 / 4 - g) - sA f * sA g) + iC (a + b) * (sA f * sA (1 / 4 - g) + sA (1 / 4 - f) * sA g) := by
    unfold vC vS
    rw [v1, v2]
    grind
  rw [k1, k2, k3, k4]
  exact ⟨t1, t2⟩
/-- It lies on the circle. -/
theorem vv_one {a : Int} {f : Rat} (f0 : 0 ≤ f) (f1 : f ≤ 1 / 4) : ab (vC a f * vC a f + vS a f * vS a f - 1) ≤ aN := by
  have h := A_one (x := f) (by apply ab_le <;> grind)
  have e : vC a f * vC a f + vS a f * vS a f = (sA f * sA f + sA (1 / 4 - f) * sA (1 / 4 - f)) := by
    unfold vC vS
    rcases iCS_r a with ⟨x, y⟩ | ⟨x, y⟩ | ⟨x, y⟩ | ⟨x, y⟩ <;> rw [x, y] <;> grind
  rw [e]
  exact h
end Go.Proofs.Ytamgekijihpgkaa

/- Errors: what a number of the program's is nearly. Plain. -/
namespace Go.Proofs.Ytamgekijihpgkaa
open Go.RowKit Ieee

/-- x is a number, v but for E. -/
def Ap (k : FloatKind) (x : Nat) (v E : Rat) : Prop := isF k x ∧ ab (rv k x - v) ≤ E
def ep (k : FloatKind) : Rat := 2 * ulp k + eta k
theorem ep64 : 0 ≤ ep .f64 ∧ 1000000000000000 * ep .f64 ≤ 1 := by decide +kernel
theorem ep32 : 0 ≤ ep .f32 ∧ 8000000 * ep .f32 ≤ 1 := by decide +kernel
theorem ulp_nn (k : FloatKind) : 0 ≤ ulp k := Rat.le_of_lt (zpos _)
theorem eta_nn (k : FloatKind) : 0 ≤ eta k := Rat.le_of_lt (zpos _)
theorem ep_nn (k : FloatKind) : 0 ≤ ep k := by have := ulp_nn k; have := eta_nn k; unfold ep; grind
theorem big_k (k : FloatKind) : (1000000 : Rat) ≤ (2 : Rat) ^ (bias k : Int) := by
  cases k
  · exact big32
  · exact big64
theorem Ap.w {k : FloatKind} {x : Nat} {v E F : Rat} (h : Ap k x v E) (hE : E ≤ F) : Ap k x v F := ⟨h.1, Rat.le_trans h.2 hE⟩
theorem Ap.to {k : FloatKind} {x : Nat} {v w E F : Rat} (h : Ap k x v E) (h1 : v - w + E ≤ F) (h2 : w - v + E ≤ F) : Ap k x w F := by
  obtain ⟨a, b⟩ := ab_both h.2
  exact ⟨h.1, by apply ab_le <;> grind⟩
theorem Ap.self {k : FloatKind} {x : Nat} (h : isF k x) : Ap k x (rv k x) 0 := ⟨h, by rw [show rv k x - rv k x = 0 by grind, ab_zero]; exact Rat.le_refl⟩
theorem Ap.exact {k : FloatKind} {x : Nat} {v : Rat} (h : isF k x) (e : rv k x = v) : Ap k x v 0 := by rw [← e]; exact Ap.self h
theorem ep_le {k : FloatKind} {z B : Rat} (h : ab z ≤ B) : ab z * ulp k + eta k ≤ ep k * (B + 1) ∧ 2 * (ab z * ulp k) + eta k ≤ ep k * (B + 1) := by
  have hu := ulp_nn k
  have he := eta_nn k
  have hB : 0 ≤ B := Rat.le_trans (ab_nonneg z) h
  have a := Rat.mul_le_mul_of_nonneg_right h hu
  have b := Rat.mul_nonneg he hB
  have c := Rat.mul_nonneg (ab_nonneg z) hu
  have e : ep k * (B + 1) = 2 * (B * ulp k) + eta k * B + 2 * ulp k + eta k := by unfold ep; grind
  rw [e]
  generalize ab z * ulp k = p at *
  generalize B * ulp k = q at *
  generalize eta k * B = r at *
  constructor <;> grind
theorem near_ap {k : FloatKind} {b : Nat} {z v E B : Rat} (h : Near k b z) (h1 : ab (z - v) ≤ E) (h2 : ab v + E ≤ B) : Ap k b v (E + ep k * (B + 1)) := by
  have hz : ab z ≤ B := by
    have := ab_add (z - v) v
    rw [show z - v + v = z by grind] at this
    grind
  have e := (ep_le (k := k) hz).1
  obtain ⟨a1, a2⟩ := ab_both h1
  have u := h.up
  have l := h.lo
  exact ⟨h.fin, by apply ab_le <;> grind⟩
theorem ab_tri {a b v w E F : Rat} (h1 : ab (a - v) ≤ E) (h2 : ab (b - w) ≤ F) : ab (a + b - (v + w)) ≤ E + F ∧ ab (a - b - (v - w)) ≤ E + F := by
  obtain ⟨a1, a2⟩ := ab_both h1
  obtain ⟨b1, b2⟩ := ab_both h2
  constructor <;> apply ab_le <;> grind
theorem ab_of_near {a v E : Rat} (h : ab (a - v) ≤ E) : ab a ≤ ab v + E := by
  have := ab_add (a - v) v
  rw [show a - v + v = a by grind] at this
  grind
theorem Ap.add {k : FloatKind} {x y : Nat} {v w E F : Rat} (B : Rat) (hx : Ap k x v E) (hy : Ap k y w F) (h : ab (v + w) + (E + F) ≤ B) (hB : B ≤ 1000000) : OpN .add k x y (rv k x + rv k y) ∧ Ap k (fop .add k x y) (v + w) (E + F + ep k * (B + 1)) := by
  have t := (ab_tri hx.2 hy.2).1
  have b := ab_of_near t
  have O := op_add hx.1 hy.1 (Rat.le_trans b (Rat.le_trans h (Rat.le_trans hB (big_k k))))
  exact ⟨O, near_ap O.near t h⟩
theorem Ap.sub {k : FloatKind} {x y : Nat} {v w E F : Rat} (B : Rat) (hx : Ap k x v E) (hy : Ap k y w F) (h : ab (v - w) + (E + F) ≤ B) (hB : B ≤ 1000000) : OpN .sub k x y (rv k x - rv k y) ∧ Ap k (fop .sub k x y) (v - w) (E + F + ep k * (B + 1)) := by
  have t := (ab_tri hx.2 hy.2).2
  have b := ab_of_near t
  have O := op_sub hx.1 hy.1 (Rat.le_trans b (Rat.le_trans h (Rat.le_trans hB (big_k k))))
  exact ⟨O, near_ap O.near t h⟩
theorem Ap.mul {k : FloatKind} {x y : Nat} {v w E F : Rat} (V W B : Rat) (hx : Ap k x v E) (hy : Ap k y w F) (hv : ab v ≤ V) (hw : ab w ≤ W) (h : V * W + (E * (W + F) + V * F) ≤ B) (hB : B ≤ 1000000) :
    OpN .mul k x y (rv k x * rv k y) ∧ Ap k (fop .mul k x y) (v * w) (E * (W + F) + V * F + ep k * (B + 1)) := by
  have by' := ab_of_near hy.2
  have t := prod_err hx.2 hy.2 hv (Rat.le_trans by' (by grind : ab w + F ≤ W + F))
  have b := ab_of_near t
  have m := mul_sm hv hw
  have h' : ab (v * w) + (E * (W + F) + V * F) ≤ B := by grind
  have O := op_mul hx.1 hy.1 (Rat.le_trans b (Rat.le_trans h' (Rat.le_trans hB (big_k k))))
  exact ⟨O, near_ap O.near t h'⟩
theorem Ap.quo {k : FloatKind} {x y : Nat} {v E D : Rat} (B : Rat) (hx : Ap k x v E) (hy : isF k y) (hd : rv k y = D) (h1 : 1 ≤ D) (h : ab v + E ≤ B) (hB : 2 * B ≤ 1000000) : OpQ .quo k x y (rv k x / D) ∧ Ap k (fop .quo k x y) (v / D) (E / D + ep k * (B + 1)) := by
  have hD0 : D ≠ 0 := by grind
  have b := ab_of_near hx.2
  have hb : ab (rv k x) ≤ B := Rat.le_trans b h
  have hq : ab (rv k x / D) ≤ B := by
    obtain ⟨y1, y2⟩ := ab_both hb
    obtain ⟨z1, z2⟩ := div_sm h1 y1 y2
    exact ab_le z1 (by grind)
  have O := op_quo hx.1 hy (v := rv k x / D) (by rw [hd]; exact hD0) (by rw [hd]; exact Rat.div_mul_cancel hD0) (by have := big_k k; grind)
  refine ⟨O, O.fin, ?_⟩
  have e := (ep_le (k := k) hq).2
  have u := O.up
  have l := O.lo
  have t : ab (rv k x / D - v / D) ≤ E / D := by
    have e1 : rv k x / D - v / D = (rv k x - v) * (1 / D) := by rw [Rat.div_def, Rat.div_def, Rat.div_def]; grind
    have hp : 0 ≤ 1 / D := div_nn h1 (by decide)
    rw [e1, ab_mul, ab_of_nonneg hp]
    have := Rat.mul_le_mul_of_nonneg_right hx.2 hp
    rw [show E / D = E * (1 / D) by rw [Rat.div_def, Rat.div_def]; grind]
    exact this
  obtain ⟨t1, t2⟩ := ab_both t
  apply ab_le <;> grind
theorem Ap.n32 {x : Nat} {v E : Rat} (B : Rat) (hx : Ap .f64 x v E) (h : ab v + E ≤ B) (hB : B ≤ 1000000) : nfit x = true ∧ Ap .f32 (n32 (cn .f64 x)) v (E + ep .f32 * (B + 1)) := by
  have b := ab_of_near hx.2
  obtain ⟨n1, n2⟩ := narrow_val hx.1 (Rat.le_trans b (Rat.le_trans h (Rat.le_trans hB big32)))
  rw [hx.1.cn]
  exact ⟨n1, near_ap n2 hx.2 h⟩
theorem Ap.c64 {x : Nat} {v E : Rat} (hx : Ap .f32 x v E) : Ap .f64 (c64 x) v E := by
  obtain ⟨a, b⟩ := wide_val hx.1
  exact ⟨a, by rw [b]; exact hx.2⟩
theorem Ap.neg {x : Nat} {v E : Rat} (B : Rat) (hx : Ap .f64 x v E) (h : ab v + E ≤ B) (hB : B ≤ 1000000) : OpN .sub .f64 0 x (rv .f64 0 - rv .f64 x) ∧ Ap .f64 (fop .sub .f64 0 x) (-v) (E + ep .f64 * (B + 1)) := by
  have Z : Ap .f64 0 0 0 := Ap.exact (isF_of (by decide +kernel)) (by decide +kernel)
  obtain ⟨a, b⟩ := Z.sub B hx (by rw [show (0 : Rat) - v = -v by grind, ab_neg]; grind) hB
  refine ⟨a, ?_⟩
  rw [show (0 : Rat) - v = -v by grind] at b
  exact b.w (by grind)
end Go.Proofs.Ytamgekijihpgkaa
