/- A number with the other sign. Plain: nothing of the dump. -/
import Derived.Test.YtamgekijihpgkaaMa
namespace Go.Proofs.Ytamgekijihpgkaa
open Ieee

theorem isN_mod (k : FloatKind) (b : Nat) : isN k b = decide (k.format.infRung < b % k.format.signWeight) := by
  have hlt : k.format.binade ≤ k.format.infRung := by cases k <;> decide
  unfold isN Format.read
  dsimp only
  split
  · rename_i h1; simp [Datum.isNaN]; omega
  · split
    · rename_i h1; simp [Datum.isNaN]; omega
    · split
      · rename_i h1; simp [Datum.isNaN]; omega
      · simp [Datum.isNaN]; omega
theorem neg_mod (k : FloatKind) (b : Nat) : Op.negFloat k b % k.format.signWeight = b % k.format.signWeight := by
  unfold Op.negFloat Format.signWeight
  apply Nat.eq_of_testBit_eq
  intro i
  rw [Nat.testBit_mod_two_pow, Nat.testBit_mod_two_pow, Nat.testBit_xor, Nat.testBit_two_pow]
  by_cases h : i < k.format.exponentBits + k.format.fractionBits
  · have : ¬ (k.format.exponentBits + k.format.fractionBits = i) := by omega
    simp [h, this]
  · simp [h]
/-- The number with the other sign, all NaNs made one. -/
def fneg (k : FloatKind) (x : Nat) : Nat := if isN k x then qn k else Op.negFloat k x
@[go_sem] theorem cn_neg (k : FloatKind) (b : Nat) : cn k (Op.negFloat k b) = fneg k (cn k b) := by
  unfold fneg
  rw [isN_cn]
  have h : isN k (Op.negFloat k b) = isN k b := by rw [isN_mod, isN_mod, neg_mod]
  cases hb : isN k b
  · rw [cn_of_not (h.trans hb), cn_of_not hb]; rfl
  · rw [cn_of_nan (h.trans hb)]; rfl
@[go_sem] theorem run_neg_float {P : Program} (w : World) (k : FloatKind) (b : Nat) : (Op.unary .neg (.float k b)).run P w = .ok (.float k (Op.negFloat k b)) w := by simp [Op.unary]
end Go.Proofs.Ytamgekijihpgkaa
