/- A letter's text, both sides. -/
import Derived.Test.YtfblpibioegmkaaG3
namespace Go.Proofs.Ytfblpibioegmkaa
open Go.RowKit

/-- The first rule for a letter. -/
def findR (rs : List RuleV) (t : ByteArray) : Nat := rs.findIdx fun r => decide (r.1 = t)
def subT (rs : List RuleV) (t : ByteArray) : ByteArray := if h : findR rs t < rs.length then rs[findR rs t].2 else t
theorem findR_yes {rs : List RuleV} {t : ByteArray} {k : Nat} (hk : k < rs.length) (h : rs[k].1 = t) (hno : ∀ j (hj : j < k), ¬ (rs[j]'(by omega)).1 = t) : findR rs t = k := by
  unfold findR
  rw [List.findIdx_eq hk]
  exact ⟨by simpa using h, fun j hj => by simpa using hno j hj⟩
theorem findR_no {rs : List RuleV} {t : ByteArray} (hno : ∀ j (hj : j < rs.length), ¬ rs[j].1 = t) : findR rs t = rs.length := by
  unfold findR
  rw [List.findIdx_eq_length]
  intro r hr
  obtain ⟨j, hj, rfl⟩ := List.getElem_of_mem hr
  simpa using hno j hj
theorem subT_yes {rs : List RuleV} {t : ByteArray} {k : Nat} (hk : k < rs.length) (h : rs[k].1 = t) (hno : ∀ j (hj : j < k), ¬ (rs[j]'(by omega)).1 = t) : subT rs t = rs[k].2 := by
  unfold subT
  have := findR_yes hk h hno
  simp only [this]
  rw [dif_pos hk]
theorem subT_no {rs : List RuleV} {t : ByteArray} (hno : ∀ j (hj : j < rs.length), ¬ rs[j].1 = t) : subT rs t = t := by
  unfold subT
  have := findR_no hno
  simp only [this]
  rw [dif_neg (by omega)]
set_option maxRecDepth 100000 in
set_option maxHeartbeats 1000000 in
theorem l04Text_any (t : ByteArray) (A : Option Addr) (c p : Nat) (rs : List RuleV) (w : World) (hA : RRd w A rs) (hn : rs.length ≤ maxLen)
    (b1 : w.cell? ⟨p, 1, none⟩ = some (.slice A rs.length c)) :
    Calls Try.prog 84 #[.pointer (some ⟨p, 0, none⟩), .string t] w fun e w' => e = .returned (.string (subT rs t)) ∧ ∃ n, w' = w.drewN n := by
  unfold maxLen at hn
  have hp := World.block_lt_of_cell? _ _ b1
  go_enter Try.func84, Try.ntmps84
  go_wp2_with fail
  go_loopw [5] (fun iv wr => ∃ k : Nat, k ≤ rs.length ∧ iv = .int .i64 k ∧ Hid (∀ j (hj : j < k) (h : j < rs.length), ¬ rs[j].1 = t) ∧ wr = w) (fun iv _ => rs.length - (intOf iv).toNat)
  case atStart => exact ⟨0, Nat.zero_le _, rfl, Lib.hid (fun j hj _ => absurd hj (Nat.not_lt_zero _)), rfl⟩
  case round =>
    obtain ⟨k, hk, rfl, HN, rfl⟩ := hrel
    by_cases hlt : k < rs.length
    · obtain ⟨b, o, rfl, hb, d0, d1⟩ := hA k rs[k] (by simp [hlt])
      by_cases e : rs[k].1 = t
      · have hs := Lib.hid (subT_yes hlt e (fun j hj => HN.out j hj (by omega)))
        have hq : (rs[k].1.toList == t.toList) = true := by rw [beq_toList]; simp [e]
        generalize rs[k] = r at d0 d1 hs hq
        clear e
        go_wp2
        go_ret
        exact ⟨ret_string hs.out.symm, 0, rfl⟩
      · have hq : (rs[k].1.toList == t.toList) = false := by rw [beq_toList]; simp [e]
        have hN2 : Hid (∀ j (hj : j < k + 1) (h : j < rs.length), ¬ rs[j].1 = t) := Lib.hid (fun j hj h => by
          rcases Nat.lt_or_ge j k with h2 | h2
          · exact HN.out j h2 h
          · obtain rfl : j = k := by omega
            exact e)
        generalize rs[k] = r at d0 d1 hq
        clear e
        go_wp2
        go_roundw
        case rel => exact ⟨k + 1, by omega, by go_num, hN2, by first | trivial | rfl⟩
        case measure => simp [intOf]; omega
    · obtain rfl : k = rs.length := by omega
      have hs := Lib.hid (subT_no (fun j hj => HN.out j hj hj))
      go_wp2
      go_ret
      exact ⟨ret_string hs.out.symm, 0, rfl⟩
theorem clos_any (r : RuleV) (t : ByteArray) (p : Nat) (w : World) (h : w.cell? ⟨p, 0, none⟩ = some (.string t)) :
    Calls Try.prog 86 #[.agg #[.string r.1, .string r.2], .pointer (some ⟨p, 0, none⟩)] w fun e w' => e = .returned (.bool (decide (r.1 = t))) ∧ Below w.heap.size w w' := by
  have hp := World.block_lt_of_cell? _ _ h
  go_enter Try.func86, Try.ntmps86
  go_wp2
  go_ret
  exact ⟨ret_bool (beq_toList _ _), by go_grown⟩
theorem enter_clos : ∀ args w, (callFunc 86 args).run Try.prog w = .ok (.enter 86 args) w := fun args w => by
  simp only [callFunc]
  have h1 : ¬ (Try.f86.name = "runtime.NumGoroutine") := by decide +kernel
  have h2 : Try.f86.body.isSome = true := by kernel_rfl
  have h3 : ¬ (Try.f86.body = none) := fun h => by rw [h] at h2; cases h2
  simp [h1, h3]
def findI (rs : List RuleV) (t : ByteArray) : Int := if findR rs t < rs.length then (findR rs t : Int) else -1
set_option maxRecDepth 100000 in
set_option maxHeartbeats 1000000 in
theorem indexFunc_any (t : ByteArray) (A : Option Addr) (c p : Nat) (rs : List RuleV) (w : World) (hA : RRd w A rs) (hn : rs.length ≤ maxLen) (h : w.cell? ⟨p, 0, none⟩ = some (.string t)) :
    Calls Try.prog 85 #[.slice A rs.length c, .func (.func 86) #[] #[.pointer (some ⟨p, 0, none⟩)]] w fun e w' => e = .returned (.int .i64 (findI rs t)) ∧ Below w.heap.size w w' := by
  unfold maxLen at hn
  have hp := World.block_lt_of_cell? _ _ h
  have ec := enter_clos
  go_enter Try.func85, Try.ntmps85
  go_wp2_with fail
  go_loopw [8] (fun iv wr => ∃ k : Nat, k ≤ rs.length ∧ iv = .int .i64 k ∧ Hid (∀ j (hj : j < k) (h : j < rs.length), ¬ rs[j].1 = t) ∧ Below w.heap.size w wr) (fun iv _ => rs.length - (intOf iv).toNat)
  case atStart => exact ⟨0, Nat.zero_le _, rfl, Lib.hid (fun j hj _ => absurd hj (Nat.not_lt_zero _)), Below.refl _ _⟩
  case round =>
    obtain ⟨k, hk, rfl, HN, hbel⟩ := hrel
    by_cases hlt : k < rs.length
    · obtain ⟨b, o, rfl, hb, d0, d1⟩ := hA k rs[k] (by simp [hlt])
      have e0 := (hbel.cell hb).trans d0
      have e1 := (hbel.cell hb).trans d1
      have ht := (hbel.cell (p := ⟨p, 0, none⟩) hp).trans h
      by_cases e : rs[k].1 = t
      · have hs : Hid (findI rs t = (k : Int)) := Lib.hid (by
          have := findR_yes hlt e (fun j hj => HN.out j hj (by omega))
          unfold findI
          rw [this, if_pos hlt])
        have hd : decide (rs[k].1 = t) = true := by simp [e]
        generalize rs[k] = r at e0 e1 hd
        clear e d0 d1
        have hc := clos_any r t p wr ht
        rw [hd] at hc
        go_wp2_with fail
        refine hc.mono ?_
        rintro e w2 ⟨rfl, k2⟩
        clear hc
        go_wp2
        go_ret
        exact ⟨ret_int hs.out.symm, Below.step hbel k2⟩
      · have hd : decide (rs[k].1 = t) = false := by simp [e]
        have hN2 : Hid (∀ j (hj : j < k + 1) (h : j < rs.length), ¬ rs[j].1 = t) := Lib.hid (fun j hj h => by
          rcases Nat.lt_or_ge j k with h2 | h2
          · exact HN.out j h2 h
          · obtain rfl : j = k := by omega
            exact e)
        generalize rs[k] = r at e0 e1 hd
        clear e d0 d1
        have hc := clos_any r t p wr ht
        rw [hd] at hc
        go_wp2_with fail
        refine hc.mono ?_
        rintro e w2 ⟨rfl, k2⟩
        clear hc
        go_wp2
        go_roundw
        case rel => exact ⟨k + 1, by omega, by go_num, hN2, Below.step hbel k2⟩
        case measure => simp [intOf]; omega
    · obtain rfl : k = rs.length := by omega
      have hs : Hid (findI rs t = -1) := Lib.hid (by
        have := findR_no (fun j hj => HN.out j hj hj)
        unfold findI
        rw [this, if_neg (by omega)])
      go_wp2
      go_ret
      exact ⟨ret_int hs.out.symm, hbel⟩
end Go.Proofs.Ytfblpibioegmkaa
