/- The contracts of IsWord's callees and of IsWord, both sides. -/
import Derived.Test.YtfblpibioegmkaaRows
import Derived.Test.YtfblpibioegmkaaShelf
import Derived.WalkKit
import Derived.ProofKit
import Derived.WalkLawsBesides
import Derived.WalkSpells
import Derived.Lib.Hide
import Derived.Deep.QuietTactic
import Derived.BigQuiet
import Derived.BigGuardPart
namespace Go.Proofs.Ytfblpibioegmkaa
open Go.RowKit

def ltr (b : Int) : Bool := decide (65 ≤ b) && decide (b ≤ 90)
def sgn (b : Int) : Bool := b == 43 || b == 45 || b == 91 || b == 93
def okc (c : UInt8) : Bool := ltr (c.toNat : Int) || sgn (c.toNat : Int)
def wordB (n : Int) (l : List UInt8) : Bool := decide ((l.length : Int) ≤ n) && l.all okc

theorem okc_yes {c : UInt8} (h : ((65 : Int) ≤ c.toNat ∧ (c.toNat : Int) ≤ 90) ∨ (c.toNat : Int) = 43 ∨ (c.toNat : Int) = 45 ∨ (c.toNat : Int) = 91 ∨ (c.toNat : Int) = 93) : okc c = true := by
  simp [okc, ltr, sgn]; omega
theorem okc_no {c : UInt8} (h1 : ¬ ((65 : Int) ≤ c.toNat ∧ (c.toNat : Int) ≤ 90)) (h2 : ¬ (c.toNat : Int) = 43) (h3 : ¬ (c.toNat : Int) = 45) (h4 : ¬ (c.toNat : Int) = 91) (h5 : ¬ (c.toNat : Int) = 93) : okc c = false := by
  simp [okc, ltr, sgn]; omega
theorem take_snoc (s : ByteArray) (k : Nat) (h : k < s.size) : s.data.toList.take (k + 1) = s.data.toList.take k ++ [s[k]] := by
  rw [List.take_succ_eq_append_getElem (by simpa using h)]; rfl
theorem all_snoc {s : ByteArray} {k : Nat} (h : k < s.size) (ha : (s.data.toList.take k).all okc = true) (hc : okc s[k] = true) : (s.data.toList.take (k + 1)).all okc = true := by
  rw [take_snoc s k h, List.all_append, ha]; simp [hc]
theorem all_bad {s : ByteArray} {k : Nat} (h : k < s.size) (hc : okc s[k] = false) : s.data.toList.all okc = false := by
  rw [List.all_eq_false]
  exact ⟨s[k], by show s.data[k] ∈ s.data.toList; simp, by simp [hc]⟩
theorem wordB_bad {s : ByteArray} {n : Int} {k : Nat} (h : k < s.size) (hc : okc s[k] = false) : wordB n s.data.toList = false := by
  simp [wordB, all_bad h hc]
theorem wordB_end {s : ByteArray} {n : Int} (ha : (s.data.toList.take s.size).all okc = true) : wordB n s.data.toList = decide ((s.size : Int) ≤ n) := by
  rw [List.take_of_length_le (by simp)] at ha
  simp [wordB, ha]

theorem idx_sgn : ∀ c : UInt8, (decide (0 ≤ Lib.indexByte [43, 45, 91, 93] c)) = sgn (c.toNat : Int) := by
  intro c
  have h : ∀ n : Fin 256, (decide (0 ≤ Lib.indexByte [43, 45, 91, 93] (UInt8.ofNat n.val))) = sgn ((UInt8.ofNat n.val).toNat : Int) := by decide +kernel
  have := h ⟨c.toNat, c.toNat_lt⟩
  simpa using this

theorem ret_bool {a b : Bool} (h : a = b) : Ending.returned (.bool a) = .returned (.bool b) := by rw [h]

theorem isLetter_any (b : Int) (w : World) :
    Calls Try.prog 52 #[.int .u8 b] w fun e w' => e = .returned (.bool (ltr b)) ∧ w = w' := by
  by_cases h : 65 ≤ b
  · go_enter Try.func52, Try.ntmps52
    go_wp2
    go_ret
    exact ⟨by simp [ltr, h], rfl⟩
  · go_enter Try.func52, Try.ntmps52
    go_wp2
    go_ret
    exact ⟨by simp [ltr]; omega, rfl⟩

theorem l04Word_any (s : ByteArray) (n : Int) (w : World) (hs : s.size ≤ maxLen) :
    Calls Try.prog 51 #[.string s, .int .i64 n] w fun e w' => e = .returned (.bool (wordB n s.data.toList)) ∧ w = w' := by
  unfold maxLen at hs
  by_cases hle : (s.size : Int) ≤ n
  · go_enter Try.func51, Try.ntmps51
    go_wp2
    go_loop [5] (fun i => ∃ k : Nat, k ≤ s.size ∧ i = .int .i64 k ∧ Hid ((s.data.toList.take k).all okc = true)) (fun i => s.size - (intOf i).toNat)
    case atStart => exact ⟨0, Nat.zero_le _, rfl, Lib.hid (by simp)⟩
    case round =>
      obtain ⟨k, hk, rfl, HA⟩ := hrel
      by_cases hlt : k < s.size
      · go_wp2
        all_goals first
          | (go_ret; exact ⟨ret_bool (wordB_bad hlt (okc_no (by omega) (by omega) (by omega) (by omega) (by simp_all))).symm, rfl⟩)
          | (go_round
             case rel => exact ⟨k + 1, by omega, by go_num, Lib.hid (all_snoc hlt HA.out (okc_yes (by first | omega | (simp_all; done) | (simp_all; omega))))⟩
             case measure => simp [intOf]; omega)
      · go_wp2
        go_ret
        obtain rfl : k = s.size := by omega
        exact ⟨ret_bool (by rw [wordB_end HA.out, decide_eq_true hle]), rfl⟩
  · go_enter Try.func51, Try.ntmps51
    have hx : wordB n s.data.toList = false := by simp [wordB]; omega
    have HX := Lib.hid hx
    clear hx
    have hd : decide ((s.size : Int) ≤ n) = false := by simp; omega
    go_wp2
    go_loop [5] (fun i => i = .int .i64 0) (fun i => 0)
    case atStart => rfl
    case round =>
      obtain rfl := hrel
      go_wp2
      all_goals
        go_ret
        exact ⟨ret_bool HX.out.symm, rfl⟩

theorem specIsWord_any (s : ByteArray) (w : World) (hs : s.size ≤ maxLen) :
    Calls Try.prog 15 #[.string s] w fun e w' => e = .returned (.bool (wordB 4000 s.data.toList)) ∧ w = w' := by
  go_enter Try.func15, Try.ntmps15
  go_wp2_with (go_at_call 51; refine (l04Word_any _ _ _ hs).mono ?_; rintro e w' ⟨rfl, rfl⟩)
  go_ret
  exact ⟨rfl, rfl⟩

theorem isWord_any (s : ByteArray) (w : World) (hs : s.size ≤ maxLen) :
    Calls Try.prog 16 #[.string s] w fun e w' => e = .returned (.bool (wordB 4000 s.data.toList)) ∧ w = w' := by
  unfold maxLen at hs
  go_enter Try.func16, Try.ntmps16
  go_wp2
  go_loop [6] (fun i => ∃ k : Nat, k ≤ s.size ∧ i = .int .i64 k ∧ Hid ((s.data.toList.take k).all okc = true)) (fun i => s.size - (intOf i).toNat)
  case atStart => exact ⟨0, Nat.zero_le _, rfl, Lib.hid (by simp)⟩
  case round =>
    obtain ⟨k, hk, rfl, HA⟩ := hrel
    by_cases hlt : k < s.size
    · by_cases hl : ltr (s[k].toNat : Int) = true
      · go_wp2_with (go_at_call 52; refine (isLetter_any _ _).mono ?_; rintro e w' ⟨rfl, rfl⟩)
        go_round
        case rel => exact ⟨k + 1, by omega, by go_num, Lib.hid (all_snoc hlt HA.out (by simp [okc, hl]))⟩
        case measure => simp [intOf]; omega
      · go_wp2_with (first | (go_at_call 52; refine (isLetter_any _ _).mono ?_; rintro e w' ⟨rfl, rfl⟩) | (go_at_call 53; refine (Try.strings_IndexByte _ _ _).mono ?_; rintro e w' ⟨rfl, rfl⟩))
        · have hx : Lib.indexByte [43, 45, 91, 93] s[k] < 0 := by assumption
          have hi := idx_sgn s[k]
          rw [decide_eq_false (by omega)] at hi
          go_ret
          exact ⟨ret_bool (wordB_bad hlt (by simp [okc, hl, ← hi])).symm, rfl⟩
        · have hx : 0 ≤ Lib.indexByte [43, 45, 91, 93] s[k] := by assumption
          have hi := idx_sgn s[k]
          rw [decide_eq_true hx] at hi
          go_round
          case rel => exact ⟨k + 1, by omega, by go_num, Lib.hid (all_snoc hlt HA.out (by simp [okc, ← hi]))⟩
          case measure => simp [intOf]; omega
    · go_wp2
      go_ret
      obtain rfl : k = s.size := by omega
      exact ⟨ret_bool (wordB_end HA.out).symm, rfl⟩
theorem isWord_law (s : ByteArray) (w : World) (hs : s.size ≤ maxLen) :
    Calls Try.prog 3 #[.string s] w fun e w' => e = .returned (.bool true) ∧ w = w' := by
  go_enter Try.func3, Try.ntmps3
  go_wp2_with (first | (go_at_call 15; refine (specIsWord_any _ _ hs).mono ?_; rintro e w' ⟨rfl, rfl⟩) | (go_at_call 16; refine (isWord_any _ _ hs).mono ?_; rintro e w' ⟨rfl, rfl⟩))
  all_goals
    go_ret
    exact ⟨rfl, rfl⟩
end Go.Proofs.Ytfblpibioegmkaa
