/- Fractions of turns in 64 bits. Plain: nothing of the dump. -/
import Derived.Test.YtamgekijihpgkaaFloor
import Derived.Test.YtamgekijihpgkaaDet
namespace Go.Proofs.Ytamgekijihpgkaa
open Ieee

/-- From 0 to a rung (minus nothing too). -/
def Fr (R : Nat) (f : Nat) : Prop := ∃ s r, f = double.word s r ∧ r ≤ R ∧ (s = true → r = 0)
def kQ : Nat := 4598175219545276416
theorem kQ_word : kQ = double.word false (1021 * 4503599627370496) := by decide +kernel
theorem kQ_read : double.read kQ = .number false 4503599627370496 (-54) := by decide +kernel
theorem det0 {op : BinOp} {k : FloatKind} {x y : Nat} {d : Datum} (h : floatBits op k x y = some (k.format.write d)) (hd : d.isNaN = false) : (∀ w, fres op k x y w = fop op k x y) ∧ fdr op k x y = 0 ∧ fop op k x y = k.format.write d := by
  have hf := fop_of h hd
  refine ⟨fun w => ?_, ?_, hf⟩
  · unfold fres; rw [h, hf]
  · unfold fdr; rw [h]
theorem up64 {neg : Bool} {m : Nat} {e : Int} (R : Nat) (h1 : 1 ≤ R) (he : e ≤ (R : Int) - 1023) (hm : m ≤ 2 ^ ((R : Int) - 1023 - e).toNat) : ∃ r, double.nearest neg m e = double.word neg r ∧ r ≤ R * 4503599627370496 := by
  obtain ⟨r, a, b, _⟩ := nearest_up .f64 neg (m := m) (e := e) (E := (R : Int) - 1023) h1 rfl he hm
  exact ⟨r, a, b⟩
theorem b52 : (2 : Nat) ^ 52 = 4503599627370496 := by decide
/-- Up to three quarters. -/
theorem near_34 {N : Nat} (h : N ≤ 3 * 4503599627370496) : ∃ r, double.nearest false N (-54) = double.word false r ∧ r ≤ 1022 * 4503599627370496 + 2251799813685248 := by
  rcases Nat.lt_or_ge (2 * 4503599627370496) N with hlt | hle
  · have h0 : N ≠ 0 := by omega
    have hL : N.log2 = 53 := by
      have a : 53 ≤ N.log2 := (Nat.le_log2 h0).2 (by have : (2 : Nat) ^ 53 = 2 * 4503599627370496 := by decide
                                                     omega)
      have b : N.log2 < 54 := (Nat.log2_lt h0).2 (by have : (2 : Nat) ^ 54 = 4 * 4503599627370496 := by decide
                                                     omega)
      omega
    have e4 : double.leastPlace = -1074 := by decide +kernel
    have e5 : double.fractionBits = 52 := rfl
    have e2 : double.binade = 4503599627370496 := by decide +kernel
    unfold Format.nearest
    rw [if_neg h0, hL, e4, e5, e2]
    refine ⟨_, rfl, Nat.le_trans (Nat.min_le_left _ _) ?_⟩
    have hc : Toward.even.cut false (N <<< ((-54 : Int) - max (-54 + ((53 : Nat) : Int) - ((52 : Nat) : Int)) (-1074)).toNat) (max (-54 + ((53 : Nat) : Int) - ((52 : Nat) : Int)) (-1074) - (-54)).toNat ≤ 6755399441055744 := by
      apply cut_le
      have a1 : ((-54 : Int) - max (-54 + ((53 : Nat) : Int) - ((52 : Nat) : Int)) (-1074)).toNat = 0 := by decide
      have a2 : (max (-54 + ((53 : Nat) : Int) - ((52 : Nat) : Int)) (-1074) - (-54 : Int)).toNat = 1 := by decide
      rw [a1, a2]
      simp only [Nat.shiftLeft_zero]
      omega
    have a3 : (max (-54 + ((53 : Nat) : Int) - ((52 : Nat) : Int)) (-1074) - (-1074 : Int)).toNat = 1021 := by decide
    rw [a3]
    omega
  · obtain ⟨r, a, b⟩ := up64 (neg := false) (m := N) (e := -54) 1022 (by decide) (by decide) (by
      have : (2 : Nat) ^ (((1022 : Nat) : Int) - 1023 - -54).toNat = 2 * 4503599627370496 := by decide
      omega)
    exact ⟨r, a, by omega⟩
/-- A quarter less. -/
structure QStep (f R' : Nat) : Prop where
  fr : Fr R' (fop .sub .f64 f kQ)
  res : ∀ w, fres .sub .f64 f kQ w = fop .sub .f64 f kQ
  dr : fdr .sub .f64 f kQ = 0
theorem qstep_of {f R' m : Nat} {e : Int} {N : Nat} (hr : double.read f = .number false m e) (he : -54 ≤ e) (hN : m <<< (e + 54).toNat = N + 4503599627370496) (h : ∃ r, double.nearest false N (-54) = double.word false r ∧ r ≤ R') : QStep f R' := by
  have hmin : min e (-54) = -54 := by omega
  have hb : floatBits .sub .f64 f kQ = some (double.write (.number false N (-54))) := by
    unfold floatBits
    simp only [FloatKind.format, Format.sub]
    rw [hr, kQ_read]
    unfold Datum.opposite Datum.sum
    simp only [hmin]
    have e1 : (e - -54).toNat = (e + 54).toNat := by omega
    have e2 : ((-54 : Int) - -54).toNat = 0 := by decide
    rw [e1, e2]
    unfold signed
    simp only [Bool.false_eq_true, if_false, Bool.not_false, if_true, Nat.shiftLeft_zero, hN]
    have e3 : ((N + 4503599627370496 : Nat) : Int) + -((4503599627370496 : Nat) : Int) = (N : Int) := by omega
    rw [e3]
    have e4 : (if (N : Int) = 0 then (false && true) else decide ((N : Int) < 0)) = false := by
      split
      · rfl
      · simp
    rw [e4]
    simp
  obtain ⟨a, b, c⟩ := det0 (k := .f64) hb rfl
  obtain ⟨r, h1, h2⟩ := h
  refine ⟨⟨false, r, ?_, h2, fun h => by cases h⟩, a, b⟩
  rw [c]
  exact h1
theorem inf64 : double.infRung = 2047 * 4503599627370496 := by decide +kernel
theorem bin64 : double.binade = 4503599627370496 := by decide +kernel
theorem sw64 : double.signWeight = 9223372036854775808 := by decide +kernel
theorem lp64 : double.leastPlace = -1074 := by decide +kernel
/-- What is read of a normal positive number. -/
theorem read64 {a t : Nat} (h1 : 1 ≤ a) (h2 : a < 2047) (ht : t < 4503599627370496) : double.read (double.word false (a * 4503599627370496 + t)) = .number false (4503599627370496 + t) ((a : Int) - 1075) := by
  have hlt : a * 4503599627370496 + t < 9223372036854775808 := by omega
  unfold Format.read Format.word
  simp only [Bool.false_eq_true, if_false, sw64, bin64, inf64, lp64]
  rw [Nat.mod_eq_of_lt hlt, Nat.div_eq_of_lt hlt, if_neg (by omega), if_pos (by omega)]
  have e1 : (a * 4503599627370496 + t) % 4503599627370496 = t := by omega
  have e2 : (a * 4503599627370496 + t) / 4503599627370496 = a := by omega
  rw [e1, e2]
  congr 1
  omega
theorem fr_big {R f : Nat} (h : Fr R f) (hR : R < 2047 * 4503599627370496) (hg : fkey .f64 kQ ≤ fkey .f64 f) : ∃ r, f = double.word false r ∧ r ≤ R ∧ 1021 * 4503599627370496 ≤ r := by
  obtain ⟨s, r, rfl, hr, hs⟩ := h
  have hi : r < FloatKind.f64.format.infRung := by show r < double.infRung; rw [inf64]; omega
  have kq : fkey .f64 kQ = (rval double (1021 * 4503599627370496) : Int) := by
    rw [kQ_word]
    exact fkey_word .f64 false (r := 1021 * 4503599627370496) (by show _ < double.infRung; rw [inf64]; omega)
  have kf : fkey .f64 (double.word s r) = if s then -(rval double r : Int) else (rval double r : Int) := fkey_word .f64 s hi
  rw [kq, kf] at hg
  have hz : rval double 0 = 0 := by decide +kernel
  have hq0 : 0 < rval double (1021 * 4503599627370496) := by
    have := rval_lt (f := double) (r := 0) (r' := 1021 * 4503599627370496) (by omega)
    omega
  cases s
  · refine ⟨r, rfl, hr, ?_⟩
    rcases Nat.lt_or_ge r (1021 * 4503599627370496) with h' | h'
    · exfalso
      have h3 := rval_lt (f := double) h'
      have h4 : (rval double (1021 * 4503599627370496) : Int) ≤ (rval double r : Int) := hg
      generalize rval double r = u at *
      generalize rval double (1021 * 4503599627370496) = v at *
      omega
    · exact h'
  · exfalso
    rw [hs rfl, hz] at hg
    have h4 : (rval double (1021 * 4503599627370496) : Int) ≤ -((0 : Nat) : Int) := hg
    generalize rval double (1021 * 4503599627370496) = v at *
    omega
def R1 : Nat := 1021 * 4503599627370496
def R2 : Nat := 1022 * 4503599627370496
def R3 : Nat := 1022 * 4503599627370496 + 2251799813685248
def R4 : Nat := 1023 * 4503599627370496
/-- The bound after a quarter less. -/
def Rof : Nat → Nat
  | 0 => 0
  | 1 => R1
  | 2 => R2
  | 3 => R3
  | _ => R4
theorem quarter_step {f j : Nat} (h : Fr (Rof (j + 1)) f) (hj : j < 4) (hg : fkey .f64 kQ ≤ fkey .f64 f) : QStep f (Rof j) := by
  have hR : Rof (j + 1) ≤ 1023 * 4503599627370496 := by
    match j, hj with
    | 0, _ => show R1 ≤ _; unfold R1; omega
    | 1, _ => show R2 ≤ _; unfold R2; omega
    | 2, _ => show R3 ≤ _; unfold R3; omega
    | 3, _ => show R4 ≤ _; unfold R4; omega
  obtain ⟨r, hf, hr, hlo⟩ := fr_big h (by omega) hg
  rw [hf]
  clear hf hg h
  obtain ⟨a, t, ht, rfl⟩ : ∃ a t : Nat, t < 4503599627370496 ∧ r = a * 4503599627370496 + t := ⟨r / 4503599627370496, r % 4503599627370496, Nat.mod_lt _ (by decide), by omega⟩
  have ha1 : 1021 ≤ a := by omega
  have ha2 : a ≤ 1023 := by omega
  have hrd := read64 (a := a) (t := t) (by omega) (by omega) ht
  have p52 : (2 : Nat) ^ 52 = 4503599627370496 := by decide
  have p53 : (2 : Nat) ^ 53 = 2 * 4503599627370496 := by decide
  have zero : ∀ R', ∃ r, double.nearest false 0 (-54) = double.word false r ∧ r ≤ R' := fun R' => ⟨0, by decide +kernel, Nat.zero_le _⟩
  have q1 : ∀ N, N ≤ 4503599627370496 → ∃ r, double.nearest false N (-54) = double.word false r ∧ r ≤ R1 := fun N hN => up64 1021 (by decide) (by decide) (by
    have : (2 : Nat) ^ (((1021 : Nat) : Int) - 1023 - -54).toNat = 4503599627370496 := by decide
    omega)
  have q2 : ∀ N, N ≤ 2 * 4503599627370496 → ∃ r, double.nearest false N (-54) = double.word false r ∧ r ≤ R2 := fun N hN => up64 1022 (by decide) (by decide) (by
    have : (2 : Nat) ^ (((1022 : Nat) : Int) - 1023 - -54).toNat = 2 * 4503599627370496 := by decide
    omega)
  obtain ⟨N, hN, hNb⟩ : ∃ N, (4503599627370496 + t) <<< ((a : Int) - 1075 + 54).toNat = N + 4503599627370496 ∧ ((j = 0 → N = 0) ∧ (j = 1 → N ≤ 4503599627370496) ∧ (j = 2 → N ≤ 2 * 4503599627370496) ∧ N ≤ 3 * 4503599627370496) := by
    have hcase : a = 1021 ∨ a = 1022 ∨ a = 1023 := by omega
    have u1 : Rof (0 + 1) = 1021 * 4503599627370496 := rfl
    have u2 : Rof (1 + 1) = 1022 * 4503599627370496 := rfl
    have u3 : Rof (2 + 1) = 1022 * 4503599627370496 + 2251799813685248 := rfl
    rcases hcase with rfl | rfl | rfl
    · refine ⟨t, ?_, ?_⟩
      · have : (((1021 : Nat) : Int) - 1075 + 54).toNat = 0 := by decide
        rw [this, Nat.shiftLeft_zero, Nat.add_comm]
      · refine ⟨fun h => ?_, fun h => ?_, fun h => ?_, ?_⟩
        · subst h; rw [u1] at hr; omega
        · omega
        · omega
        · omega
    · refine ⟨4503599627370496 + 2 * t, ?_, ?_⟩
      · have : (((1022 : Nat) : Int) - 1075 + 54).toNat = 1 := by decide
        rw [this, Nat.shiftLeft_eq]; omega
      · refine ⟨fun h => ?_, fun h => ?_, fun h => ?_, ?_⟩
        · subst h; rw [u1] at hr; omega
        · subst h; rw [u2] at hr; omega
        · subst h; rw [u3] at hr; omega
        · omega
    · refine ⟨3 * 4503599627370496 + 4 * t, ?_, ?_⟩
      · have : (((1023 : Nat) : Int) - 1075 + 54).toNat = 2 := by decide
        rw [this, Nat.shiftLeft_eq]; omega
      · refine ⟨fun h => ?_, fun h => ?_, fun h => ?_, ?_⟩
        · subst h; rw [u1] at hr; omega
        · subst h; rw [u2] at hr; omega
        · subst h; rw [u3] at hr; omega
        · omega
  refine qstep_of hrd (by omega) hN ?_
  clear hN hrd hr hlo
  have hj4 : j = 0 ∨ j = 1 ∨ j = 2 ∨ j = 3 := by omega
  rcases hj4 with rfl | rfl | rfl | rfl
  · rw [hNb.1 rfl]; exact zero _
  · exact q1 N (hNb.2.1 rfl)
  · exact q2 N (hNb.2.2.1 rfl)
  · exact near_34 hNb.2.2.2
/-- Where nothing is left, no quarter is. -/
theorem fr_zero {f : Nat} (h : Fr 0 f) : ¬ fkey .f64 kQ ≤ fkey .f64 f := by
  intro hg
  obtain ⟨r, _, h1, h2⟩ := fr_big h (by omega) hg
  omega
end Go.Proofs.Ytamgekijihpgkaa
