/- The sign of a number by its bits. Plain: nothing of the dump. -/
import Derived.Test.YtenepnbickpcjaaRung
import Derived.Laws.BitsAllLaws
import Derived.IntWalk
namespace Go.Proofs.Ytenepnbickpcjaa
open Ieee Go.RowKit

theorem read_neg (f : Format) (x : Nat) : (f.read x).neg = (x / f.signWeight % 2 == 1) := by
  unfold Format.read
  dsimp only
  split
  · rfl
  · split
    · rfl
    · split <;> rfl
theorem sgn_write (k : FloatKind) (d : Datum) (h : d.isNaN = false) : sgn k (k.format.write d) = d.neg := by
  cases d with
  | number neg m e =>
    obtain ⟨r, hr, he⟩ := nearest_word k.format neg m e
    show sgn k (k.format.nearest neg m e) = neg
    rw [he]
    exact word_neg _ neg (Nat.lt_of_le_of_lt hr (infRung_lt' k))
  | infinity neg => exact word_neg _ neg (infRung_lt' k)
  | nan s t => simp [Datum.isNaN] at h
theorem sign_wide {x : Nat} (hx : isN .f32 x = false) : sgn .f64 (double.write (single.read x)) = sgn .f32 x := by
  have h := sgn_write .f64 (single.read x) hx
  rw [read_neg] at h
  exact h
theorem and_63 (b : Nat) : (b &&& 9223372036854775808 = 0) ↔ b / 2 ^ 63 % 2 ≠ 1 := by
  have hp : ∀ i, Nat.testBit 9223372036854775808 i = decide (63 = i) := fun i => by
    rw [show (9223372036854775808 : Nat) = 2 ^ 63 from rfl, Nat.testBit_two_pow]
  have ht : b.testBit 63 = decide (b / 2 ^ 63 % 2 = 1) := Nat.testBit_eq_decide_div_mod_eq
  constructor
  · intro h hc
    have h1 : (b &&& 9223372036854775808).testBit 63 = true := by rw [Nat.testBit_and, hp, ht, decide_eq_true hc]; rfl
    rw [h, Nat.zero_testBit] at h1
    cases h1
  · intro h
    apply Nat.eq_of_testBit_eq
    intro i
    rw [Nat.testBit_and, hp, Nat.zero_testBit]
    by_cases hi : 63 = i
    · subst hi
      rw [ht, decide_eq_false h]; rfl
    · rw [decide_eq_false hi, Bool.and_false]
theorem sign_bit (b : Nat) (hb : b < 18446744073709551616) : (bits .and .u64 (b : Int) 9223372036854775808 != 0) = sgn .f64 b := by
  have h := u64_and_nat b 9223372036854775808 hb (by decide)
  rw [show ((9223372036854775808 : Nat) : Int) = 9223372036854775808 from rfl] at h
  rw [h]
  have h2 := and_63 b
  have e : FloatKind.f64.format.signWeight = 2 ^ 63 := by decide
  unfold sgn
  rw [e]
  by_cases h3 : b / 2 ^ 63 % 2 = 1
  · have h4 : ¬ b &&& 9223372036854775808 = 0 := fun h => h2.1 h h3
    rw [h3]
    simp only [bne_iff_ne, ne_eq, beq_self_eq_true]
    omega
  · have h4 : b &&& 9223372036854775808 = 0 := h2.2 h3
    rw [h4]
    simp [h3]
theorem sign_wrap (b : Nat) (hb : b < 18446744073709551616) : decide (wrap64 (b : Int) < 0) = sgn .f64 b := by
  have e : FloatKind.f64.format.signWeight = 9223372036854775808 := by decide
  unfold sgn
  rw [e]
  rcases Nat.lt_or_ge b 9223372036854775808 with h | h
  · have h1 : wrap64 (b : Int) = b := by unfold wrap64; omega
    rw [h1, Nat.div_eq_of_lt h]
    have : ¬ ((b : Int) < 0) := by omega
    rw [decide_eq_false this]
    rfl
  · have h1 : wrap64 (b : Int) = (b : Int) - 18446744073709551616 := by unfold wrap64; omega
    have h2 : b / 9223372036854775808 = 1 := by omega
    rw [h1, h2]
    have : ((b : Int) - 18446744073709551616 < 0) := by omega
    rw [decide_eq_true this]
    rfl
theorem write64_lt (d : Datum) : double.write d < 18446744073709551616 := by
  cases d with
  | number neg m e =>
    obtain ⟨r, hr, he⟩ := nearest_word double neg m e
    show double.nearest neg m e < _
    rw [he]
    have := infRung_lt' .f64
    have e : double.signWeight = 9223372036854775808 := by decide
    have e2 : double.infRung = 9218868437227405312 := by decide
    unfold Format.word
    split <;> omega
  | infinity neg => cases neg <;> decide
  | nan neg t =>
    have hB : 0 < double.binade := by decide
    have := Nat.mod_lt t hB
    have e : double.signWeight = 9223372036854775808 := by decide
    have e2 : double.infRung = 9218868437227405312 := by decide
    have e3 : double.binade = 4503599627370496 := by decide
    show double.word neg _ < _
    unfold Format.word
    split <;> omega

/-- What the program's SameNumber tells. -/
def sameN (x y : Nat) : Bool := if isN .f32 x then isN .f32 y else if isN .f32 y then false else (ford .f32 (cn .f32 x) (cn .f32 y) == some .eq) && (sgn .f32 x == sgn .f32 y)
theorem sameN_cn {x y : Nat} (hx : x < 4294967296) (hy : y < 4294967296) : sameN x y = ((cn .f32 x : Int) == (cn .f32 y : Int)) := by
  have e : 2 * FloatKind.f32.format.signWeight = 4294967296 := by decide
  unfold sameN
  cases nx : isN .f32 x
  · simp only [Bool.false_eq_true, if_false]
    cases ny : isN .f32 y
    · simp only [Bool.false_eq_true, if_false]
      rw [cn_of_not nx, cn_of_not ny]
      have h := bits_eq (k := .f32) (x := x) (y := y) (by rw [e]; exact hx) (by rw [e]; exact hy) nx ny
      by_cases hxy : x = y
      · obtain ⟨h1, h2⟩ := h.1 hxy
        rw [h1, h2]
        simp [hxy]
      · have hf : ((x : Int) == (y : Int)) = false := by simp; omega
        rw [hf]
        by_cases h1 : ford .f32 x y = some .eq
        · have h2 : ¬ sgn .f32 x = sgn .f32 y := fun h2 => hxy (h.2 ⟨h1, h2⟩)
          simp [h2]
        · simp [h1]
    · simp only [if_true]
      rw [cn_of_not nx, cn_of_nan ny]
      symm
      have : x ≠ qn .f32 := fun h => by rw [h, isN_qn] at nx; cases nx
      simp
      omega
  · simp only [if_true]
    cases ny : isN .f32 y
    · rw [cn_of_nan nx, cn_of_not ny]
      symm
      have : y ≠ qn .f32 := fun h => by rw [h, isN_qn] at ny; cases ny
      simp
      omega
    · rw [cn_of_nan nx, cn_of_nan ny]
      simp
end Go.Proofs.Ytenepnbickpcjaa
