/- Rules and their slices: equal, marked, held. -/
import Derived.Test.YtfblpibioegmkaaA
import Derived.Test.YtfblpibioegmkaaRep
import Derived.Handy
import Derived.Deep.RegionHeld3
namespace Go.Proofs.Ytfblpibioegmkaa
open Go.RowKit

theorem beq_toList (a c : ByteArray) : (a.toList == c.toList) = decide (a = c) := by
  have h : ∀ x : ByteArray, x.toList = x.data.toList := fun x => ByteArray.toList_eq x
  by_cases e : a = c
  · subst e; simp
  · have : ¬ a.toList = c.toList := fun h' => e (by
      rw [h, h] at h'
      have := Array.toList_inj.1 h'
      cases a; cases c; simp_all)
    simp [e, this]

theorem Below.step {w w1 w2 : World} (h : Below w.heap.size w w1) (k : Below w1.heap.size w1 w2) : Below w.heap.size w w2 := h.trans (k.mono h.size)

abbrev RuleV := ByteArray × ByteArray
def rEq (r t : RuleV) : Bool := decide (r = t)
theorem rEq_of {r t : RuleV} {b c : Bool} (h1 : decide (r.1 = t.1) = b) (h2 : decide (r.2 = t.2) = c) : rEq r t = (b && c) := by
  subst h1; subst h2
  rw [Bool.eq_iff_iff]; simp [rEq, Prod.ext_iff]
def RRd (w : World) (A : Option Addr) (rs : List RuleV) : Prop :=
  ∀ (i : Nat) (r : RuleV), rs[i]? = some r → ∃ b o, A = some ⟨b, o, none⟩ ∧ b < w.heap.size ∧ w.cell? ⟨b, o + i * 2, none⟩ = some (.string r.1) ∧ w.cell? ⟨b, o + i * 2 + 1, none⟩ = some (.string r.2)

theorem eqRule_any (r t : RuleV) (w : World) :
    Calls Try.prog 82 #[.agg #[.string r.1, .string r.2], .agg #[.string t.1, .string t.2]] w fun e w' => e = .returned (.bool (rEq r t)) ∧ Below w.heap.size w w' := by
  go_enter Try.func82, Try.ntmps82
  go_wp2
  · have h : (!r.1.toList == t.1.toList) = true := by assumption
    rw [beq_toList] at h
    go_ret
    exact ⟨ret_bool (by rw [rEq_of (b := false) (by simpa using h) rfl]; rfl), by go_grown⟩
  · have h : (!r.1.toList == t.1.toList) = false := by assumption
    have h' : (!r.2.toList == t.2.toList) = true := by assumption
    rw [beq_toList] at h h'
    go_ret
    exact ⟨ret_bool (by rw [rEq_of (b := true) (c := false) (by simpa using h) (by simpa using h')]; rfl), by go_grown⟩
  · have h : (!r.1.toList == t.1.toList) = false := by assumption
    have h' : (!r.2.toList == t.2.toList) = false := by assumption
    rw [beq_toList] at h h'
    go_ret
    exact ⟨ret_bool (by rw [rEq_of (b := true) (c := true) (by simpa using h) (by simpa using h')]; rfl), by go_grown⟩

theorem eqRuleS_any (A B : Option Addr) (ca cb : Nat) (rs ts : List RuleV) (w : World) (hA : RRd w A rs) (hB : RRd w B ts) (h1 : rs.length ≤ maxLen) (h2 : ts.length ≤ maxLen) :
    Calls Try.prog 54 #[.slice A rs.length ca, .slice B ts.length cb] w fun e w' => e = .returned (.bool (decide (rs = ts))) ∧ Below w.heap.size w w' := by
  unfold maxLen at h1 h2
  by_cases hl : rs.length = ts.length
  · have HL := Lib.hid hl
    have hl1 : rs.length ≤ ts.length := by omega
    have hl2 : ts.length ≤ rs.length := by omega
    have hd : ((rs.length : Int) != ts.length) = false := by simp; omega
    clear hl
    go_enter Try.func54, Try.ntmps54
    go_wp2
    go_loopw [5] (fun i wr => ∃ k : Nat, k ≤ rs.length ∧ i = .int .i64 k ∧ Hid (rs.take k = ts.take k) ∧ Below w.heap.size w wr) (fun i _ => rs.length - (intOf i).toNat)
    case atStart => exact ⟨0, Nat.zero_le _, rfl, Lib.hid (by simp), Below.refl _ _⟩
    case round =>
      obtain ⟨k, hk, rfl, HE, hbel⟩ := hrel
      by_cases hlt : k < rs.length
      · obtain ⟨b, o, rfl, hb, hc0, hc1⟩ := hA k rs[k] (by simp [hlt])
        obtain ⟨b', o', rfl, hb', hd0, hd1⟩ := hB k (ts[k]'(by omega)) (by simp)
        generalize hr : rs[k] = r at hc0 hc1
        generalize ht : ts[k]'(by omega) = t at hd0 hd1
        have HR := Lib.hid hr
        have HT := Lib.hid ht
        clear hr ht
        have hlt2 : k < ts.length := by omega
        have e0 := (hbel.cell hb).trans hc0
        have e1 := (hbel.cell hb).trans hc1
        have f0 := (hbel.cell hb').trans hd0
        have f1 := (hbel.cell hb').trans hd1
        go_wp2_with fail
        go_region_held3 (fun w' => w'.cell? ⟨b, o + k * 2, none⟩ = some (.string r.1) ∧ w'.cell? ⟨b, o + k * 2 + 1, none⟩ = some (.string r.2) ∧ w'.cell? ⟨b', o' + k * 2, none⟩ = some (.string t.1) ∧ w'.cell? ⟨b', o' + k * 2 + 1, none⟩ = some (.string t.2) ∧ Below w.heap.size w w')
          (first | (exact ⟨e0, e1, f0, f1, hbel.drew⟩) | (exact ⟨(hb2.cell hb).trans hc0, (hb2.cell hb).trans hc1, (hb2.cell hb').trans hd0, (hb2.cell hb').trans hd1, hb2⟩) | go_keep)
          (first | (go_at_call 82; refine (eqRule_any _ _ _).mono ?_; rintro e w' ⟨rfl, hbl⟩; have hb2 := Below.step hbel.drew hbl))
        clear hbl e0 e1 f0 f1
        go_wp2
        · have hq : (!rEq r t) = true := by assumption
          have hne : rs ≠ ts := by
            intro h
            subst h
            rw [HR.out] at HT
            simp [rEq, HT.out] at hq
          go_ret
          exact ⟨ret_bool (decide_eq_false hne).symm, hb2⟩
        · have hq : (!rEq r t) = false := by assumption
          have hst : rs.take (k + 1) = ts.take (k + 1) := by
            rw [List.take_succ_eq_append_getElem hlt, List.take_succ_eq_append_getElem hlt2, HE.out, HR.out, HT.out]
            simp [rEq] at hq
            rw [hq]
          go_roundw
          case rel => exact ⟨k + 1, by omega, by go_num, Lib.hid hst, hb2⟩
          case measure => simp [intOf]; omega
      · go_wp2
        go_ret
        obtain rfl : k = rs.length := by omega
        have hE := HE.out
        rw [List.take_length, List.take_of_length_le (by omega)] at hE
        exact ⟨ret_bool (decide_eq_true hE).symm, hbel⟩
  · have HL := Lib.hid hl
    have hd : ((rs.length : Int) != ts.length) = true := by simp; omega
    clear hl
    go_enter Try.func54, Try.ntmps54
    go_wp2
    go_ret
    exact ⟨ret_bool (decide_eq_false fun e => HL.out (by rw [e])).symm, Below.refl _ _⟩


def dg (n : Nat) (acc : ByteArray) : ByteArray := if _h : n = 0 then acc else dg (n / 10) (⟨#[UInt8.ofNat (48 + n % 10)]⟩ ++ acc)
termination_by n
decreasing_by omega
theorem dg_zero (acc : ByteArray) : dg 0 acc = acc := by rw [dg]; simp
theorem dg_pos {n : Nat} (h : 0 < n) (acc : ByteArray) : dg n acc = dg (n / 10) (⟨#[UInt8.ofNat (48 + n % 10)]⟩ ++ acc) := by rw [dg]; simp; omega

theorem dig_of (m : Nat) : strOfNums [48 + (m : Int) % 10] = ⟨#[UInt8.ofNat (48 + m % 10)]⟩ := by
  have : (48 + (m : Int) % 10).toNat = 48 + m % 10 := by omega
  simp [strOfNums, this]
theorem dig_size {m k : Nat} {l : ByteArray} (hp : 0 < m) (h : l.size + m ≤ k) : (strOfNums [48 + (m : Int) % 10] ++ l).size + m / 10 ≤ k := by
  rw [ByteArray.size_append, strOfNums_size]
  simp only [List.length_cons, List.length_nil]
  omega

set_option maxRecDepth 10000 in
theorem markText_pos (k : Nat) (h0 : 0 < k) (h1 : k < 4611686018427387904) (w : World) :
    Calls Try.prog 83 #[.int .i64 k] w fun e w' => e = .returned (.string (⟨#[109]⟩ ++ dg k ⟨#[]⟩)) ∧ Below w.heap.size w w' := by
  have h0' : (0 : Int) < k := by omega
  have hk0 : ¬ k = 0 := by omega
  go_enter Try.func83, Try.ntmps83
  go_wp2
  go_loopw [3, 0] (fun t n wr => ∃ (m : Nat) (l : ByteArray), m ≤ k ∧ l.size + m ≤ k ∧ n = .int .i64 m ∧ t = .string l ∧ Hid (dg m l = dg k ⟨#[]⟩) ∧ Below w.heap.size w wr) (fun _ n _ => (intOf n).toNat)
  case atStart => exact ⟨k, ⟨#[]⟩, Nat.le_refl _, Nat.le_of_eq (Nat.zero_add k), rfl, rfl, Lib.hid rfl, Below.refl _ _⟩
  case round =>
    obtain ⟨m, l, hm, hl, rfl, rfl, HD, hbel⟩ := hrel
    by_cases hp : 0 < m
    · have hp' : (0 : Int) < m := by omega
      have hcv := run_convert_bytes_arg (P := Try.prog) (wr.alloc (Obj.cells #[Value.int IntKind.u8 (48 + ↑m % 10)] 5)) 58 5 Try.underlying58 Try.underlying5 wr.heap.size 0 1 1 [48 + ↑m % 10] rfl
      have hsz := strOfNums_size [48 + (m : Int) % 10]
      simp only [List.length_cons, List.length_nil] at hsz
      go_wp2
      go_roundw
      case rel => exact ⟨m / 10, _, by omega, dig_size hp hl, by go_num, rfl, Lib.hid (by rw [← HD.out, dg_pos hp, dig_of]), hbel.alloc hbel.size _⟩
      case measure => simp [intOf]; omega
    · obtain rfl : m = 0 := by omega
      go_wp2
      go_ret
      exact ⟨ret_string (by rw [← HD.out, dg_zero]), hbel⟩
end Go.Proofs.Ytfblpibioegmkaa
