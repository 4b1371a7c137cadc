/- The walk of FnExactTurtleTwigs. -/
import Derived.Test.YteolemgilajaeaaTw
import Derived.Test.YteolemgilajaeaaC64M
import Derived.BigRegion
namespace Go.Proofs.Yteolemgilajaeaa
open Go.RowKit
theorem tAll_len (s : ByteArray) (turn step most : Nat) : (tL1 (tAll s turn step most)).length ≤ most ∧ (tL2 (tAll s turn step most)).length ≤ most := by
  unfold tAll
  split
  · unfold tOut
    cases hr : tRun (cn .f32 turn) (cn .f32 step) s.data.toList (some t0) with
    | none => exact ⟨Nat.zero_le _, Nat.zero_le _⟩
    | some T =>
      have h := (tRun_mono _ _ _ _ _ hr).2.2.1 rfl
      dsimp only
      split
      · rename_i hc
        exact ⟨by show T.fr.length ≤ most; omega, by show T.to.length ≤ most; omega⟩
      · exact ⟨Nat.zero_le _, Nat.zero_le _⟩
  · exact ⟨Nat.zero_le _, Nat.zero_le _⟩
set_option maxRecDepth 100000 in
set_option maxHeartbeats 2000000 in
theorem twLaw (s : ByteArray) (turn step : Nat) (w : World) (hs : s.size ≤ maxLen) :
    Calls Try.prog 3 #[.string s, .float .f32 turn, .float .f32 step] w fun e w' => e = .returned (.bool true) ∧ Below w.heap.size w w' := by
  by_cases hl : (s.size : Int) ≤ 1048576
  · have S := fun (w : World) => specTw_any s turn step w hs
    have I := fun (w : World) => twigs_any s turn step w hs
    obtain ⟨hc1, hc2⟩ := tAll_len s turn step 256
    generalize tL1 (tAll s turn step 256) = l1 at S I hc1
    generalize tL2 (tAll s turn step 256) = l2 at S I hc2
    generalize (tAll s turn step 256).isSome = ok at S I
    go_enter Try.func3, Try.ntmps3
    go_wp2_with fail
    refine (S _).mono ?_
    rintro e w3 ⟨AW, cW, PW, BW, dW, QW, rfl, oW, uW, aW, eW, fW, K3⟩
    have EW := Lib.hid eW
    have FW := Lib.hid fW
    have lW : PW.length ≤ 256 := by rw [← cp_len, eW]; exact hc1
    have rW : QW.length ≤ 256 := by rw [← cp_len, fW]; exact hc2
    clear eW fW S aW
    go_wp2_with fail
    refine (I _).mono ?_
    rintro e w8 ⟨AG, cG, PG, BG, dG, QG, rfl, oG, uG, aG, eG, fG, k5⟩
    have EG := Lib.hid eG
    have FG := Lib.hid fG
    have lG : PG.length ≤ 256 := by rw [← cp_len, eG]; exact hc1
    have rG : QG.length ≤ 256 := by rw [← cp_len, fG]; exact hc2
    have hW : ∀ b, InA AW b → b < w3.heap.size := fun b h => (oW.2.2 b h).2
    have hW' : ∀ b, InA BW b → b < w3.heap.size := fun b h => (uW.2.2 b h).2
    have hG : ∀ b, InA AG b → w3.heap.size ≤ b := fun b h => (oG.2.2 b h).1
    have hG' : ∀ b, InA BG b → w3.heap.size ≤ b := fun b h => (uG.2.2 b h).1
    have oW := oW.below k5
    have uW := uW.below k5
    have z3 := K3.size
    have z8 := k5.size
    have K8 := Below.step K3 k5
    clear k5 K3 eG fG
    go_wp2_with fail
    refine (eqC_ok AG AW cG cW PG PW _ oG.1 oW.1 (by unfold maxLen; omega) (by rw [EG.out, EW.out])).mono ?_
    rintro e w9 ⟨rfl, m9, hw9⟩
    have K9 : Below w.heap.size w w9 := by rw [hw9]; exact below_drawN K8 _
    have oG9 : OwnS w3.heap.size w9 AG (PG.map cv) := by rw [hw9]; exact oG.drewN _
    have oW9 : OwnS w.heap.size w9 AW (PW.map cv) := by rw [hw9]; exact oW.drewN _
    have uG9 : OwnS w3.heap.size w9 BG (QG.map cv) := by rw [hw9]; exact uG.drewN _
    have uW9 : OwnS w.heap.size w9 BW (QW.map cv) := by rw [hw9]; exact uW.drewN _
    have z9 : w8.heap.size = w9.heap.size := by rw [hw9]; rfl
    clear hw9 K8 oG oW uG uW
    go_wp2_with fail
    refine (eqC_ok BG BW dG dW QG QW _ uG9.1 uW9.1 (by unfold maxLen; omega) (by rw [FG.out, FW.out])).mono ?_
    rintro e w10 ⟨rfl, m10, hw10⟩
    have K10 : Below w.heap.size w w10 := by rw [hw10]; exact below_drawN K9 _
    have oG10 : OwnS w3.heap.size w10 AG (PG.map cv) := by rw [hw10]; exact oG9.drewN _
    have oW10 : OwnS w.heap.size w10 AW (PW.map cv) := by rw [hw10]; exact oW9.drewN _
    have uG10 : OwnS w3.heap.size w10 BG (QG.map cv) := by rw [hw10]; exact uG9.drewN _
    have uW10 : OwnS w.heap.size w10 BW (QW.map cv) := by rw [hw10]; exact uW9.drewN _
    have z10 : w8.heap.size = w10.heap.size := by rw [hw10]; exact z9
    clear hw10 K9 oG9 oW9 uG9 uW9 z9
    go_wp2_with fail
    refine (markC_any AG PG.length cG _ 1 rfl _ (by have := oG10.2.1; simpa using this) (by omega)).mono ?_
    rintro e w14 ⟨rfl, k14, m14⟩
    have z14 := k14.size
    have oW14 := oW10.keep k14 (fun b h e => by have := hW _ h; have := hG _ e; omega)
    have uW14 := uW10.keep k14 (fun b h e => by have := hW' _ h; have := hG _ e; omega)
    have uG14 := uG10.keep k14 (fun b h e => aG _ e h)
    have K14 := k14.below K10 (by omega) (fun k h => by have := hG _ h; omega)
    clear k14 oG10 oW10 uG10 uW10 K10
    go_wp2_with fail
    refine (markC_any BG QG.length dG _ (1 + PG.length) (by push_cast; rfl) _ (by have := uG14.2.1; simpa using this) (by omega)).mono ?_
    rintro e w15 ⟨rfl, k15, m15⟩
    have z15 := k15.size
    have oW15 := oW14.keep k15 (fun b h e => by have := hW _ h; have := hG' _ e; omega)
    have uW15 := uW14.keep k15 (fun b h e => by have := hW' _ h; have := hG' _ e; omega)
    have m14 : CRd w15 AG (cmarks 1 PG.length) := Rd.keepA m14 k15 (fun b h e => aG _ h e)
    have K15 := k15.below K14 (by omega) (fun k h => by have := hG' _ h; omega)
    clear k15 oW14 uW14 uG14 K14
    go_wp2_with fail
    refine (heldC_ok AG PG.length cG _ 1 rfl _ m14 (by omega)).mono ?_
    rintro e w16 ⟨rfl, rfl⟩
    go_wp2_with fail
    refine (heldC_ok BG QG.length dG _ (1 + PG.length) (by push_cast; rfl) _ m15 (by omega)).mono ?_
    rintro e w17 ⟨rfl, rfl⟩
    go_wp2_with fail
    refine (I _).mono ?_
    rintro e w18 ⟨AH, cH, PH, BH, dH, QH, rfl, oH, uH, _, eH, fH, k7⟩
    have EH := Lib.hid eH
    have FH := Lib.hid fH
    have lH : PH.length ≤ 256 := by rw [← cp_len, eH]; exact hc1
    have rH : QH.length ≤ 256 := by rw [← cp_len, fH]; exact hc2
    have oW18 := oW15.below k7
    have uW18 := uW15.below k7
    have m14 : CRd w18 AG (cmarks 1 PG.length) := Rd.below m14 k7
    have m15 : CRd w18 BG (cmarks (1 + PG.length) QG.length) := Rd.below m15 k7
    have K18 := Below.step K15 k7
    clear k7 oW15 uW15 K15 I eH fH
    go_wp2_with fail
    refine (eqC_ok AH AW cH cW PH PW _ oH.1 oW18.1 (by unfold maxLen; omega) (by rw [EH.out, EW.out])).mono ?_
    rintro e w19 ⟨rfl, m19, hw19⟩
    have K19 : Below w.heap.size w w19 := by rw [hw19]; exact below_drawN K18 _
    have uH19 : CRd w19 BH QH := by rw [hw19]; exact uH.1
    have uW19 : CRd w19 BW QW := by rw [hw19]; exact uW18.1
    have m14 : CRd w19 AG (cmarks 1 PG.length) := by rw [hw19]; exact m14
    have m15 : CRd w19 BG (cmarks (1 + PG.length) QG.length) := by rw [hw19]; exact m15
    clear hw19 oW18 uW18 oH uH K18
    go_wp2_with fail
    refine (eqC_ok BH BW dH dW QH QW _ uH19 uW19 (by unfold maxLen; omega) (by rw [FH.out, FW.out])).mono ?_
    rintro e w20 ⟨rfl, m20, hw20⟩
    have K20 : Below w.heap.size w w20 := by rw [hw20]; exact below_drawN K19 _
    have m14 : CRd w20 AG (cmarks 1 PG.length) := by rw [hw20]; exact m14
    have m15 : CRd w20 BG (cmarks (1 + PG.length) QG.length) := by rw [hw20]; exact m15
    clear hw20 K19 uH19 uW19
    go_wp2_with fail
    refine (heldC_ok AG PG.length cG _ 1 rfl _ m14 (by omega)).mono ?_
    rintro e w21 ⟨rfl, rfl⟩
    go_wp2_with fail
    refine (heldC_ok BG QG.length dG _ (1 + PG.length) (by push_cast; rfl) _ m15 (by omega)).mono ?_
    rintro e w22 ⟨rfl, rfl⟩
    go_wp2
    go_ret
    exact ⟨rfl, K20⟩
  · go_enter Try.func3, Try.ntmps3
    go_wp2
    go_ret
    exact ⟨rfl, Below.refl _ _⟩
end Go.Proofs.Yteolemgilajaeaa
