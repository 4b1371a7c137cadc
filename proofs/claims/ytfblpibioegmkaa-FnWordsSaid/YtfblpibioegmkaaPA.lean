/- PutRule: letters compared. -/
import Derived.Test.YtfblpibioegmkaaG3
import Derived.Test.YtfblpibioegmkaaPut
import Derived.Deep.LoopGhost
namespace Go.Proofs.Ytfblpibioegmkaa
open Go.RowKit

def lessS (a b : ByteArray) : Bool := Op.bytesLess a.toList b.toList
def cmpS (a b : ByteArray) : Int := if lessS a b then -1 else if a.toList == b.toList then 0 else 1
theorem compare_any (a b : ByteArray) (w : World) : Calls Try.prog 75 #[.string a, .string b] w fun e w' => e = .returned (.int .i64 (cmpS a b)) ∧ w = w' := by
  cases h1 : lessS a b
  · cases h2 : (a.toList == b.toList)
    · have HX : Hid (cmpS a b = 1) := Lib.hid (by unfold cmpS; rw [h1, h2]; rfl)
      unfold lessS at h1
      go_enter Try.func75, Try.ntmps75
      go_wp2
      go_ret
      exact ⟨by rw [HX.out]; rfl, rfl⟩
    · have HX : Hid (cmpS a b = 0) := Lib.hid (by unfold cmpS; rw [h1, h2]; rfl)
      unfold lessS at h1
      go_enter Try.func75, Try.ntmps75
      go_wp2
      go_ret
      exact ⟨by rw [HX.out]; rfl, rfl⟩
  · have HX : Hid (cmpS a b = -1) := Lib.hid (by unfold cmpS; rw [h1]; rfl)
    unfold lessS at h1
    go_enter Try.func75, Try.ntmps75
    go_wp2
    go_ret
    exact ⟨by rw [HX.out]; rfl, rfl⟩
theorem putCmp_any (a b : RuleV) (w : World) : Calls Try.prog 74 #[.agg #[.string a.1, .string a.2], .agg #[.string b.1, .string b.2]] w fun e w' => e = .returned (.int .i64 (cmpS a.1 b.1)) ∧ Below w.heap.size w w' := by
  go_enter Try.func74, Try.ntmps74
  go_wp2_with fail
  refine (compare_any _ _ _).mono ?_
  rintro e w' ⟨rfl, rfl⟩
  go_wp2
  go_ret
  exact ⟨rfl, Below.step (below_alloc _ _) (below_alloc _ _)⟩
/-- One letter. -/
theorem one_list {a : ByteArray} (h : a.size = 1) : ∃ x : UInt8, a.toList = [x] ∧ hdI a = (x.toNat : Int) := by
  have e : a.toList = a.data.toList := ByteArray.toList_eq a
  have hl : a.data.toList.length = 1 := by rw [Array.length_toList]; exact h
  cases hd : a.data.toList with
  | nil => rw [hd] at hl; cases hl
  | cons x l =>
    rw [hd] at hl
    have : l = [] := List.length_eq_zero_iff.1 (by simpa using hl)
    subst this
    exact ⟨x, by rw [e, hd], by unfold hdI; rw [hd]; rfl⟩
theorem cmp_one {a b : ByteArray} (ha : a.size = 1) (hb : b.size = 1) : (cmpS a b < 0 ↔ hdI a < hdI b) ∧ (cmpS a b = 0 ↔ hdI a = hdI b) := by
  obtain ⟨x, e1, h1⟩ := one_list ha
  obtain ⟨y, e2, h2⟩ := one_list hb
  have hl : lessS a b = decide (x < y) := by
    unfold lessS
    rw [e1, e2]
    simp [Op.bytesLess]
  have hq : (a.toList == b.toList) = decide (x = y) := by
    rw [e1, e2]
    by_cases h : x = y <;> simp [h]
  unfold cmpS
  rw [hl, hq, h1, h2]
  have k1 : x < y ↔ x.toNat < y.toNat := UInt8.lt_iff_toNat_lt
  have k2 : x = y ↔ x.toNat = y.toNat := UInt8.toNat_inj.symm
  by_cases c1 : x < y
  · rw [decide_eq_true c1]
    have := k1.1 c1
    rw [if_pos rfl]
    refine ⟨⟨fun _ => by omega, fun _ => by decide⟩, ⟨fun h => absurd h (by decide), fun h => by omega⟩⟩
  · have h3 := fun h => c1 (k1.2 h)
    rw [decide_eq_false c1]
    by_cases c2 : x = y
    · have := k2.1 c2
      rw [decide_eq_true c2, if_neg (by decide), if_pos rfl]
      refine ⟨⟨fun h => absurd h (by decide), fun h => by omega⟩, ⟨fun _ => by omega, fun _ => rfl⟩⟩
    · have h4 := fun h => c2 (k2.2 h)
      rw [decide_eq_false c2, if_neg (by decide), if_neg (by decide)]
      refine ⟨⟨fun h => absurd h (by decide), fun h => absurd (show x.toNat < y.toNat by omega) h3⟩, ⟨fun h => absurd h (by decide), fun h => absurd (show x.toNat = y.toNat by omega) h4⟩⟩
end Go.Proofs.Ytfblpibioegmkaa
