/- Grammars compared, both sides. -/
import Derived.Test.YtfblpibioegmkaaG3
import Derived.Laws.StructEq
import Derived.BigQuiet
namespace Go.Proofs.Ytfblpibioegmkaa
open Go.RowKit

theorem rule_struct : Try.prog.underlying 55 = some (.struct (Try.prog.fieldsOf 55)) := by kernel_rfl
theorem rule_held : Try.prog.stoodInHeld 55 = false := by kernel_rfl
theorem rule_guard : Try.prog.eqGuardType Try.prog.depth 55 = false := by kernel_rfl
theorem eqlRule (r t : RuleV) (w : World) : (Op.equalIn 10000 55 (.agg #[.string r.1, .string r.2]) (.agg #[.string t.1, .string t.2])).run Try.prog w = .ok (rEq r t) w := by
  have us := Try.underlying9
  have as_ := Try.isAgg9
  have zs := Try.sizeOf9
  rw [show (10000 : Nat) = 9999 + 1 from rfl, run_equalIn_agg w 9999 55 _ _ rule_struct rule_held]
  simp only [Program.fieldsOf, Try.underlying55]
  go_simp
  have e1 : (r.1.toList = t.1.toList) ↔ (r.1 = t.1) := by
    have := beq_toList r.1 t.1
    rw [Bool.eq_iff_iff] at this
    simpa using this
  have e2 : (r.2.toList = t.2.toList) ↔ (r.2 = t.2) := by
    have := beq_toList r.2 t.2
    rw [Bool.eq_iff_iff] at this
    simpa using this
  by_cases h1 : r.1 = t.1
  · by_cases h2 : r.2 = t.2
    · rw [if_pos (e1.2 h1), if_pos (e2.2 h2), rEq_of (b := true) (c := true) (by simpa using h1) (by simpa using h2)]; rfl
    · rw [if_pos (e1.2 h1), if_neg (fun h => h2 (e2.1 h)), rEq_of (b := true) (c := false) (by simpa using h1) (by simpa using h2)]; rfl
  · rw [if_neg (fun h => h1 (e1.1 h)), rEq_of (b := false) (by simpa using h1) rfl]; rfl
theorem neqRule (r t : RuleV) (w : World) : (binOp .neq 55 (.agg #[.string r.1, .string r.2]) (.agg #[.string t.1, .string t.2])).run Try.prog w = .ok (.bool (!rEq r t)) w := by
  rw [run_neq_struct, eqlRule]; rfl
set_option maxRecDepth 100000 in
set_option maxHeartbeats 1000000 in
theorem slEq_any (A B : Option Addr) (ca cb : Nat) (rs ts : List RuleV) (w : World) (hA : RRd w A rs) (hB : RRd w B ts) (h1 : rs.length ≤ maxLen) (h2 : ts.length ≤ maxLen) :
    Calls Try.prog 60 #[.slice A rs.length ca, .slice B ts.length cb] w fun e w' => e = .returned (.bool (decide (rs = ts))) ∧ ∃ n, w' = w.drewN n := by
  unfold maxLen at h1 h2
  by_cases hl : rs.length = ts.length
  · have HL := Lib.hid hl
    have hl1 : rs.length ≤ ts.length := by omega
    have hl2 : ts.length ≤ rs.length := by omega
    have hd : ((rs.length : Int) != ts.length) = false := by simp; omega
    clear hl
    go_enter Try.func60, Try.ntmps60
    go_wp2_with fail
    go_loopw [13] (fun iv wr => ∃ k n : Nat, k ≤ rs.length ∧ iv = .int .i64 k ∧ Hid (rs.take k = ts.take k) ∧ wr = w.drewN n) (fun iv _ => rs.length - (intOf iv).toNat)
    case atStart => exact ⟨0, 0, Nat.zero_le _, rfl, Lib.hid (by simp), rfl⟩
    case round =>
      obtain ⟨k, n, hk, rfl, HE, hwr⟩ := hrel
      have HW := Lib.hid hwr
      have hAr : RRd wr A rs := by rw [hwr]; exact hA
      have hBr : RRd wr B ts := by rw [hwr]; exact hB
      clear hwr
      by_cases hlt : k < rs.length
      · have hlt2 : k < ts.length := by omega
        have hki : (k : Int) < rs.length := by omega
        have hki2 : (k : Int) < ts.length := by omega
        obtain ⟨b, o, rfl, hb, c0, c1⟩ := hAr k rs[k] (by simp [hlt])
        obtain ⟨b', o', rfl, hb', d0, d1⟩ := hBr k ts[k] (by simp)
        have hst := fun (h : rs[k] = ts[k]) => (by rw [List.take_succ_eq_append_getElem hlt, List.take_succ_eq_append_getElem hlt2, HE.out, h] : rs.take (k + 1) = ts.take (k + 1))
        have hne := fun (h : ¬ rs[k] = ts[k]) => (fun e => h (by subst e; rfl) : ¬ rs = ts)
        have HST := Lib.hid (And.intro hst hne)
        clear hst hne
        generalize hr : rs[k] = r at c0 c1 HST
        generalize ht : ts[k] = t at d0 d1 HST
        clear hr ht
        have hNE := neqRule r t
        have hgd := rule_guard
        cases hq : rEq r t
        · have hno := Lib.hid (HST.out.2 (by simpa [rEq] using hq))
          simp only [hq, Bool.not_false] at hNE
          go_wp2_with fail
          go_quiet (fail)
          go_wp2
          go_ret
          exact ⟨ret_bool (decide_eq_false hno.out).symm, n + _, by rw [HW.out]; exact World.drewN_drewN _ _ _⟩
        · have hyes := Lib.hid (HST.out.1 (by simpa [rEq] using hq))
          simp only [hq, Bool.not_true] at hNE
          go_wp2_with fail
          go_quiet (fail)
          go_wp2
          go_roundw
          case rel => exact ⟨k + 1, n + _, by omega, by go_num, hyes, by rw [HW.out]; exact World.drewN_drewN _ _ _⟩
          case measure => simp [intOf]; omega
      · obtain rfl : k = rs.length := by omega
        have hE := HE.out
        rw [List.take_length, List.take_of_length_le (by omega)] at hE
        have HE2 := Lib.hid hE
        clear hE
        go_wp2
        go_ret
        exact ⟨ret_bool (decide_eq_true HE2.out).symm, n, HW.out⟩
  · have HL := Lib.hid hl
    have hd : ((rs.length : Int) != ts.length) = true := by simp; omega
    clear hl
    go_enter Try.func60, Try.ntmps60
    go_wp2
    go_ret
    exact ⟨ret_bool (decide_eq_false fun e => HL.out (by rw [e])).symm, 0, rfl⟩
set_option maxRecDepth 100000 in
set_option maxHeartbeats 1000000 in
theorem l04Same_any (s u : ByteArray) (A B : Option Addr) (ca cb p q : Nat) (rs ts : List RuleV) (w : World) (hA : RRd w A rs) (hB : RRd w B ts) (h1 : rs.length ≤ maxLen) (h2 : ts.length ≤ maxLen)
    (a0 : w.cell? ⟨p, 0, none⟩ = some (.string s)) (a1 : w.cell? ⟨p, 1, none⟩ = some (.slice A rs.length ca)) (b0 : w.cell? ⟨q, 0, none⟩ = some (.string u)) (b1 : w.cell? ⟨q, 1, none⟩ = some (.slice B ts.length cb)) :
    Calls Try.prog 58 #[.pointer (some ⟨p, 0, none⟩), .pointer (some ⟨q, 0, none⟩)] w fun e w' => e = .returned (.bool (decide (s = u) && decide (rs = ts))) ∧ ∃ n, w' = w.drewN n := by
  unfold maxLen at h1 h2
  by_cases hs : s = u
  · subst hs
    by_cases hl : rs.length = ts.length
    · have HL := Lib.hid hl
      have hl1 : rs.length ≤ ts.length := by omega
      have hl2 : ts.length ≤ rs.length := by omega
      have hd : ((rs.length : Int) != ts.length) = false := by simp; omega
      clear hl
      go_enter Try.func58, Try.ntmps58
      go_wp2_with fail
      go_quiet (fail)
      go_wp2_with fail
      go_loopw [5] (fun iv wr => ∃ k n : Nat, k ≤ rs.length ∧ iv = .int .i64 k ∧ Hid (rs.take k = ts.take k) ∧ wr = w.drewN n) (fun iv _ => rs.length - (intOf iv).toNat)
      case atStart => exact ⟨0, _, Nat.zero_le _, rfl, Lib.hid (by simp), rfl⟩
      case round =>
        obtain ⟨k, n, hk, rfl, HE, hwr⟩ := hrel
        have HW := Lib.hid hwr
        have hAr : RRd wr A rs := by rw [hwr]; exact hA
        have hBr : RRd wr B ts := by rw [hwr]; exact hB
        have g1 : wr.cell? ⟨p, 1, none⟩ = some (.slice A rs.length ca) := by rw [hwr]; exact a1
        have g2 : wr.cell? ⟨q, 1, none⟩ = some (.slice B ts.length cb) := by rw [hwr]; exact b1
        clear hwr
        by_cases hlt : k < rs.length
        · have hlt2 : k < ts.length := by omega
          have hki : (k : Int) < rs.length := by omega
          have hki2 : (k : Int) < ts.length := by omega
          obtain ⟨b, o, rfl, hb, c0, c1⟩ := hAr k rs[k] (by simp [hlt])
          obtain ⟨b', o', rfl, hb', d0, d1⟩ := hBr k ts[k] (by simp)
          have hst := fun (h : rs[k] = ts[k]) => (by rw [List.take_succ_eq_append_getElem hlt, List.take_succ_eq_append_getElem hlt2, HE.out, h] : rs.take (k + 1) = ts.take (k + 1))
          have hne := fun (h : ¬ rs[k] = ts[k]) => (fun e => h (by subst e; rfl) : ¬ rs = ts)
          have HST := Lib.hid (And.intro hst hne)
          clear hst hne
          generalize hr : rs[k] = r at c0 c1 HST
          generalize ht : ts[k] = t at d0 d1 HST
          clear hr ht
          have hNE := neqRule r t
          have hgd := rule_guard
          cases hq : rEq r t
          · have hno := Lib.hid (HST.out.2 (by simpa [rEq] using hq))
            simp only [hq, Bool.not_false] at hNE
            go_wp2_with fail
            go_quiet (fail)
            go_wp2
            go_ret
            exact ⟨ret_bool (Eq.symm (by rw [decide_eq_false (p := rs = ts) hno.out]; simp)), n + _, by rw [HW.out]; exact World.drewN_drewN _ _ _⟩
          · have hyes := Lib.hid (HST.out.1 (by simpa [rEq] using hq))
            simp only [hq, Bool.not_true] at hNE
            go_wp2_with fail
            go_quiet (fail)
            go_wp2
            go_roundw
            case rel => exact ⟨k + 1, n + _, by omega, by go_num, hyes, by rw [HW.out]; exact World.drewN_drewN _ _ _⟩
            case measure => simp [intOf]; omega
        · obtain rfl : k = rs.length := by omega
          have hE := HE.out
          rw [List.take_length, List.take_of_length_le (by omega)] at hE
          have HE2 := Lib.hid hE
          clear hE
          go_wp2
          go_ret
          exact ⟨ret_bool (Eq.symm (by rw [decide_eq_true (p := rs = ts) HE2.out]; simp)), n, HW.out⟩
    · have HL := Lib.hid hl
      have hd : ((rs.length : Int) != ts.length) = true := by simp; omega
      clear hl
      go_enter Try.func58, Try.ntmps58
      go_wp2_with fail
      go_quiet (fail)
      go_wp2
      go_ret
      exact ⟨ret_bool (by rw [decide_eq_false (p := rs = ts) (fun e => HL.out (by rw [e]))]; simp), _, rfl⟩
  · have hd : (s.toList == u.toList) = false := by rw [beq_toList]; simp [hs]
    go_enter Try.func58, Try.ntmps58
    go_wp2_with fail
    go_quiet (fail)
    go_wp2
    go_ret
    exact ⟨ret_bool (by simp [hs]), _, rfl⟩
def sameG (s u : ByteArray) (rs ts : List RuleV) : Bool := decide (s = u) && decide (rs = ts)
theorem specSG_any (s u : ByteArray) (A B : Option Addr) (ca cb : Nat) (rs ts : List RuleV) (w : World) (hA : RRd w A rs) (hB : RRd w B ts) (h1 : rs.length ≤ maxLen) (h2 : ts.length ≤ maxLen) :
    Calls Try.prog 27 #[.agg #[.string s, .slice A rs.length ca], .agg #[.string u, .slice B ts.length cb]] w fun e w' => e = .returned (.bool (sameG s u rs ts)) ∧ Below w.heap.size w w' := by
  have k1 := below_alloc w (.cells #[.string s, .slice A rs.length ca] 25)
  have k2 := below_alloc (w.alloc (.cells #[.string s, .slice A rs.length ca] 25)) (.cells #[.string u, .slice B ts.length cb] 25)
  go_enter Try.func27, Try.ntmps27
  go_wp2_with fail
  refine (l04Same_any s u A B ca cb _ _ rs ts _ ((hA.below k1).below k2) ((hB.below k1).below k2) h1 h2 (by simp) (by simp) (by simp) (by simp)).mono ?_
  rintro e w1 ⟨rfl, n, rfl⟩
  go_wp2
  go_ret
  exact ⟨rfl, below_drewN (Below.step k1 k2) _⟩
theorem implSG_any (s u : ByteArray) (A B : Option Addr) (ca cb : Nat) (rs ts : List RuleV) (w : World) (hA : RRd w A rs) (hB : RRd w B ts) (h1 : rs.length ≤ maxLen) (h2 : ts.length ≤ maxLen) :
    Calls Try.prog 29 #[.agg #[.string s, .slice A rs.length ca], .agg #[.string u, .slice B ts.length cb]] w fun e w' => e = .returned (.bool (sameG s u rs ts)) ∧ Below w.heap.size w w' := by
  have k1 := below_alloc w (.cells #[.string s, .slice A rs.length ca] 25)
  have k2 := below_alloc (w.alloc (.cells #[.string s, .slice A rs.length ca] 25)) (.cells #[.string u, .slice B ts.length cb] 25)
  have K := Below.step k1 k2
  by_cases hs : s = u
  · subst hs
    have hr : Hid (sameG s s rs ts = decide (rs = ts)) := Lib.hid (by unfold sameG; simp)
    go_enter Try.func29, Try.ntmps29
    go_wp2_with fail
    refine (slEq_any A B ca cb rs ts _ ((hA.below k1).below k2) ((hB.below k1).below k2) h1 h2).mono ?_
    rintro e w1 ⟨rfl, n, rfl⟩
    go_wp2
    go_ret
    exact ⟨ret_bool hr.out.symm, below_drewN K _⟩
  · have hd : (s.toList == u.toList) = false := by rw [beq_toList]; simp [hs]
    have hr : Hid (sameG s u rs ts = false) := Lib.hid (by unfold sameG; simp [hs])
    go_enter Try.func29, Try.ntmps29
    go_wp2
    go_ret
    exact ⟨ret_bool hr.out.symm, K⟩
end Go.Proofs.Ytfblpibioegmkaa
