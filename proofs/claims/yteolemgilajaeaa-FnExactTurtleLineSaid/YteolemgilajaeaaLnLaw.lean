/- The walk of FnExactTurtleLine. -/
import Derived.Test.YteolemgilajaeaaLm
import Derived.Test.YteolemgilajaeaaC64M
import Derived.BigRegion
namespace Go.Proofs.Yteolemgilajaeaa
open Go.RowKit
theorem tLn_len (s : ByteArray) (turn step : Nat) : (lnL (tLn s turn step)).length ≤ 256 := by
  unfold tLn
  split
  · cases h : tAll s turn step 255 with
    | none => exact Nat.zero_le _
    | some x =>
      have := (tAll_word h).2
      show ((0, 0) :: x.2).length ≤ 256
      simp; omega
  · exact Nat.zero_le _
set_option maxRecDepth 100000 in
set_option maxHeartbeats 2000000 in
theorem lnLaw (s : ByteArray) (turn step : Nat) (w : World) (hs : s.size ≤ maxLen) :
    Calls Try.prog 4 #[.string s, .float .f32 turn, .float .f32 step] w fun e w' => e = .returned (.bool true) ∧ Below w.heap.size w w' := by
  by_cases hl : (s.size : Int) ≤ 1048576
  · have S := fun (w : World) => specLn_any s turn step w hs
    have I := fun (w : World) => implLn_any s turn step w hs
    have hc1 := tLn_len s turn step
    generalize lnL (tLn s turn step) = l1 at S I hc1
    generalize (tLn s turn step).isSome = ok at S I
    go_enter Try.func4, Try.ntmps4
    go_wp2_with fail
    refine (S _).mono ?_
    rintro e w3 ⟨AW, cW, PW, rfl, oW, eW, K3⟩
    have EW := Lib.hid eW
    have lW : PW.length ≤ 256 := by rw [← cp_len, eW]; exact hc1
    clear eW S
    go_wp2_with fail
    refine (I _).mono ?_
    rintro e w8 ⟨AG, cG, PG, rfl, oG, eG, k5⟩
    have EG := Lib.hid eG
    have lG : PG.length ≤ 256 := by rw [← cp_len, eG]; exact hc1
    have hW : ∀ b, InA AW b → b < w3.heap.size := fun b h => (oW.2.2 b h).2
    have hG : ∀ b, InA AG b → w3.heap.size ≤ b := fun b h => (oG.2.2 b h).1
    have oW := oW.below k5
    have z3 := K3.size
    have z8 := k5.size
    have K8 := Below.step K3 k5
    clear k5 K3 eG
    go_wp2_with fail
    refine (eqC_ok AG AW cG cW PG PW _ oG.1 oW.1 (by unfold maxLen; omega) (by rw [EG.out, EW.out])).mono ?_
    rintro e w10 ⟨rfl, m10, hw10⟩
    have K10 : Below w.heap.size w w10 := by rw [hw10]; exact below_drawN K8 _
    have oG10 : OwnS w3.heap.size w10 AG (PG.map cv) := by rw [hw10]; exact oG.drewN _
    have oW10 : OwnS w.heap.size w10 AW (PW.map cv) := by rw [hw10]; exact oW.drewN _
    have z10 : w8.heap.size = w10.heap.size := by rw [hw10]; rfl
    clear hw10 K8 oG oW
    go_wp2_with fail
    refine (markC_any AG PG.length cG _ 1 rfl _ (by have := oG10.2.1; simpa using this) (by omega)).mono ?_
    rintro e w14 ⟨rfl, k14, m14⟩
    have z14 := k14.size
    have oW14 := oW10.keep k14 (fun b h e => by have := hW _ h; have := hG _ e; omega)
    have K14 := k14.below K10 (by omega) (fun k h => by have := hG _ h; omega)
    clear k14 oG10 oW10 K10
    go_wp2_with fail
    refine (heldC_ok AG PG.length cG _ 1 rfl _ m14 (by omega)).mono ?_
    rintro e w16 ⟨rfl, rfl⟩
    go_wp2_with fail
    refine (I _).mono ?_
    rintro e w18 ⟨AH, cH, PH, rfl, oH, eH, k7⟩
    have EH := Lib.hid eH
    have lH : PH.length ≤ 256 := by rw [← cp_len, eH]; exact hc1
    have oW18 := oW14.below k7
    have m14 : CRd w18 AG (cmarks 1 PG.length) := Rd.below m14 k7
    have K18 := Below.step K14 k7
    clear k7 oW14 K14 I eH
    go_wp2_with fail
    refine (eqC_ok AH AW cH cW PH PW _ oH.1 oW18.1 (by unfold maxLen; omega) (by rw [EH.out, EW.out])).mono ?_
    rintro e w20 ⟨rfl, m20, hw20⟩
    have K20 : Below w.heap.size w w20 := by rw [hw20]; exact below_drawN K18 _
    have m14 : CRd w20 AG (cmarks 1 PG.length) := by rw [hw20]; exact m14
    clear hw20 oW18 oH K18
    go_wp2_with fail
    refine (heldC_ok AG PG.length cG _ 1 rfl _ m14 (by omega)).mono ?_
    rintro e w21 ⟨rfl, rfl⟩
    go_wp2
    go_ret
    exact ⟨rfl, K20⟩
  · go_enter Try.func4, Try.ntmps4
    go_wp2
    go_ret
    exact ⟨rfl, Below.refl _ _⟩
end Go.Proofs.Yteolemgilajaeaa
