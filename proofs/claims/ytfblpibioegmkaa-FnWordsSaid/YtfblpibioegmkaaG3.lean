/- Valid grammars: the reference's side. -/
import Derived.Test.YtfblpibioegmkaaG2
import Derived.BigQuiet
namespace Go.Proofs.Ytfblpibioegmkaa
open Go.RowKit

theorem below_drewN {B : Nat} {w w' : World} (h : Below B w w') (n : Nat) : Below B w (w'.drewN n) := ⟨h.os, h.tape, h.output, h.size, h.block⟩
set_option maxRecDepth 100000 in
set_option maxHeartbeats 4000000 in
theorem l04Is_any (s : ByteArray) (A : Option Addr) (c p : Nat) (rs : List RuleV) (w : World) (hA : RRd w A rs) (hn : rs.length ≤ maxLen) (hs : s.size ≤ maxLen) (hz : ∀ r ∈ rs, r.1.size ≤ maxLen ∧ r.2.size ≤ maxLen)
    (b0 : w.cell? ⟨p, 0, none⟩ = some (.string s)) (b1 : w.cell? ⟨p, 1, none⟩ = some (.slice A rs.length c)) :
    Calls Try.prog 61 #[.pointer (some ⟨p, 0, none⟩)] w fun e w' => e = .returned (.bool (gramB s rs)) ∧ ∃ n, w' = w.drewN n := by
  unfold maxLen at hn
  cases hW : wordB 32 s.data.toList
  · have hno : Hid (gramB s rs = false) := Lib.hid (by unfold gramB; rw [hW]; simp)
    go_enter Try.func61, Try.ntmps61
    go_wp2_with (go_at_call 51; refine (l04Word_any s _ _ hs).mono ?_; rintro e w' ⟨rfl, rfl⟩; rw [hW])
    go_ret
    exact ⟨ret_bool hno.out.symm, 0, rfl⟩
  · by_cases h8 : (rs.length : Int) ≤ 8
    · go_enter Try.func61, Try.ntmps61
      go_wp2_with (go_at_call 51; refine (l04Word_any s _ _ hs).mono ?_; rintro e w' ⟨rfl, rfl⟩; rw [hW])
      go_loopw [3] (fun iv wr => ∃ k n : Nat, k ≤ rs.length ∧ iv = .int .i64 k ∧ Hid ((List.range k).all (okAt rs) = true) ∧ wr = w.drewN n) (fun iv _ => rs.length - (intOf iv).toNat)
      case atStart => exact ⟨0, 0, Nat.zero_le _, rfl, Lib.hid rfl, rfl⟩
      case round =>
        obtain ⟨k, n, hk, rfl, HO, hwr⟩ := hrel
        have c1 : wr.cell? ⟨p, 1, none⟩ = some (.slice A rs.length c) := by rw [hwr]; exact b1
        have HW := Lib.hid hwr
        have hAr : RRd wr A rs := by rw [hwr]; exact hA
        clear hwr
        by_cases hlt : k < rs.length
        · obtain ⟨b, o, rfl, hb, d0, d1⟩ := hAr k rs[k] (by simp [hlt])
          obtain ⟨y0, y1⟩ := hz rs[k] (List.getElem_mem hlt)
          have hg := Lib.hid (okAt_at hlt)
          generalize rs[k] = r at d0 d1 y0 y1 hg
          have RULE := fun m => l04Rule_any r b (o + k * 2) (wr.drewN m) y1 d0 d1
          cases hR : ruleB r
          · have hno : Hid (gramB s rs = false) := Lib.hid (by unfold gramB; rw [rulesB_bad hlt (by unfold okAt; rw [hg.out, hR]; rfl)]; rfl)
            rw [hR] at RULE
            have RQ := fun m => Calls.quiet_of_same (v := .bool false) (n := m) ((RULE m).mono fun e w' h => ⟨h.1, h.2.symm⟩)
            go_wp2_with fail
            go_quiet ((go_at_call 71; exact RQ _))
            go_wp2
            go_ret
            exact ⟨ret_bool hno.out.symm, _, by rw [HW.out]; exact World.drewN_drewN _ _ _⟩
          · rw [hR] at RULE
            have RQ := fun m => Calls.quiet_of_same (v := .bool true) (n := m) ((RULE m).mono fun e w' h => ⟨h.1, h.2.symm⟩)
            by_cases hk0 : 0 < k
            · have hkd : decide (0 < k) = true := by simp [hk0]
              have k1 : IntKind.i64.wrap ((k : Int) - 1) = (k : Int) - 1 := IntWalk.i64_in _ (by omega)
              have k2 : ((k : Int) - 1).toNat = k - 1 := by omega
              have k3 : (0 : Int) ≤ (k : Int) - 1 := by omega
              have k5 : (1 : Int) ≤ (k : Int) := by omega
              have k4 : (k : Int) - 1 < rs.length := by omega
              obtain ⟨b', o', eA, hb', d0', _⟩ := hAr (k - 1) rs[k - 1] (by simp <;> omega)
              injection eA with eA
              injection eA with eA1 eA2
              subst eA1; subst eA2
              have hgq := Lib.hid (okAt_at (show k - 1 < rs.length by omega))
              generalize rs[k - 1] = q' at d0' hgq
              obtain ⟨q, q2⟩ := q'
              cases hle : (Op.bytesLess r.1.toList q.toList || r.1.toList == q.toList)
              · have hyes : Hid (okAt rs k = true) := Lib.hid (by unfold okAt leB; rw [hg.out, hgq.out, hR]; show _ = _; rw [show (Op.bytesLess r.1.toList q.toList || r.1.toList == q.toList) = false from hle]; simp)
                go_wp2_with fail
                go_quiet ((go_at_call 71; exact RQ _))
                try rw [hle]
                go_wp2
                go_roundw
                case rel => exact ⟨k + 1, _, by omega, by go_num, Lib.hid (by rw [List.range_succ, List.all_append, HO.out]; simp [hyes.out]), by rw [HW.out]; exact World.drewN_drewN _ _ _⟩
                case measure => simp [intOf]; omega
              · have hno : Hid (gramB s rs = false) := Lib.hid (by unfold gramB; rw [rulesB_bad hlt (by unfold okAt leB; rw [hg.out, hgq.out, hR]; show _ = _; rw [show (Op.bytesLess r.1.toList q.toList || r.1.toList == q.toList) = true from hle]; simp; omega)]; rfl)
                go_wp2_with fail
                go_quiet ((go_at_call 71; exact RQ _))
                try rw [hle]
                go_wp2
                go_ret
                exact ⟨ret_bool hno.out.symm, _, by rw [HW.out]; exact World.drewN_drewN _ _ _⟩
            · have hkd : decide (0 < k) = false := by simp; omega
              have hyes : Hid (okAt rs k = true) := Lib.hid (by unfold okAt; rw [hg.out, hR, decide_eq_true (by omega : k = 0)]; rfl)
              go_wp2_with fail
              go_quiet ((go_at_call 71; exact RQ _))
              go_wp2
              go_roundw
              case rel => exact ⟨k + 1, _, by omega, by go_num, Lib.hid (by rw [List.range_succ, List.all_append, HO.out]; simp [hyes.out]), by rw [HW.out]; exact World.drewN_drewN _ _ _⟩
              case measure => simp [intOf]; omega
        · obtain rfl : k = rs.length := by omega
          have hall : Hid (gramB s rs = true) := Lib.hid (by unfold gramB rulesB; rw [HO.out, hW, decide_eq_true (p := rs.length ≤ 8) (by omega)]; rfl)
          go_wp2
          go_ret
          exact ⟨ret_bool hall.out.symm, _, HW.out⟩
    · have hno : Hid (gramB s rs = false) := Lib.hid (by unfold gramB; rw [decide_eq_false (p := rs.length ≤ 8) (by omega)]; simp)
      go_enter Try.func61, Try.ntmps61
      go_wp2_with (go_at_call 51; refine (l04Word_any s _ _ hs).mono ?_; rintro e w' ⟨rfl, rfl⟩; rw [hW])
      go_ret
      exact ⟨ret_bool hno.out.symm, 0, rfl⟩
theorem specVG_any (s : ByteArray) (A : Option Addr) (c : Nat) (rs : List RuleV) (w : World) (hA : RRd w A rs) (hn : rs.length ≤ maxLen) (hs : s.size ≤ maxLen) (hz : ∀ r ∈ rs, r.1.size ≤ maxLen ∧ r.2.size ≤ maxLen) :
    Calls Try.prog 30 #[.agg #[.string s, .slice A rs.length c]] w fun e w' => e = .returned (.bool (gramB s rs)) ∧ Below w.heap.size w w' := by
  go_enter Try.func30, Try.ntmps30
  go_wp2_with fail
  refine (l04Is_any s A c _ rs _ (hA.below (below_alloc _ _)) hn hs hz (by simp) (by simp)).mono ?_
  rintro e w1 ⟨rfl, n, rfl⟩
  go_wp2
  go_ret
  exact ⟨rfl, below_drewN (below_alloc _ _) _⟩
theorem eqGrammar_ok (s : ByteArray) (A B : Option Addr) (ca cb : Nat) (rs : List RuleV) (w : World) (hA : RRd w A rs) (hB : RRd w B rs) (hn : rs.length ≤ maxLen) :
    Calls Try.prog 19 #[.agg #[.string s, .slice A rs.length ca], .agg #[.string s, .slice B rs.length cb]] w fun e w' => e = .returned (.bool true) ∧ Below w.heap.size w w' :=
  (eqGrammar_any s s A B ca cb rs rs w hA hB hn hn).mono fun e w' ⟨h1, h2⟩ => ⟨by rw [h1]; simp, h2⟩
end Go.Proofs.Ytfblpibioegmkaa
