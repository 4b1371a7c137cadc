/- ContourOf, both sides. -/
import Derived.Test.YtcdipgkdbannmaaCFin
namespace Go.Proofs.Ytcdipgkdbannmaa
open Go.RowKit

def finQ (l : List (Nat × Nat)) : Bool := l.all fun p => finB p.1 && finB p.2
theorem finQ_cp (P : List (Nat × Nat)) : finQ (cp P) = finCL P := by
  unfold finQ finCL cp finC
  rw [List.all_map]
  rfl
def conB (sw sh : Int) (xs : List Nat) (lev : Nat) : Bool := ctOk sw sh xs lev && finQ (ctL sw sh xs lev)
def conL (sw sh : Int) (xs : List Nat) (lev : Nat) : List (Nat × Nat) := if conB sw sh xs lev then ctL sw sh xs lev else []
theorem con_no {sw sh : Int} {xs : List Nat} {lev : Nat} (h : ctOk sw sh xs lev = false) : conB sw sh xs lev = false ∧ conL sw sh xs lev = [] := by
  have : conB sw sh xs lev = false := by unfold conB; rw [h]; rfl
  exact ⟨this, by unfold conL; rw [this]; rfl⟩
theorem con_fin {sw sh : Int} {xs : List Nat} {lev : Nat} (h : finQ (ctL sw sh xs lev) = false) : conB sw sh xs lev = false ∧ conL sw sh xs lev = [] := by
  have : conB sw sh xs lev = false := by unfold conB; rw [h, Bool.and_false]
  exact ⟨this, by unfold conL; rw [this]; rfl⟩
theorem con_yes {sw sh : Int} {xs : List Nat} {lev : Nat} (h : ctOk sw sh xs lev = true) (h2 : finQ (ctL sw sh xs lev) = true) : conB sw sh xs lev = true ∧ conL sw sh xs lev = ctL sw sh xs lev := by
  have : conB sw sh xs lev = true := by unfold conB; rw [h, h2]; rfl
  exact ⟨this, by unfold conL; rw [this]; rfl⟩
theorem ctL_len (sw sh : Int) (xs : List Nat) (lev : Nat) : (ctL sw sh xs lev).length ≤ 600 := by
  cases ho : ctOk sw sh xs lev
  · rw [ct_bad ho]; exact Nat.zero_le _
  · have hs : shB sw sh xs = true := by unfold ctOk at ho; rw [Bool.and_eq_true] at ho; exact ho.1
    have hl : finB (cn .f32 lev) = true := by unfold ctOk at ho; rw [Bool.and_eq_true] at ho; exact ho.2
    obtain ⟨W, H, rfl, rfl, _, e⟩ := ct_nat hs hl
    obtain ⟨a, b, c, d, _, _⟩ := shB_all hs
    rw [e]
    exact coN_len (l := cl xs) (W := W) (H := H) (lev := cn .f32 lev) (dn := 2) (i := 0) (by omega) (by omega) (Nat.zero_le _)
theorem conL_len (sw sh : Int) (xs : List Nat) (lev : Nat) : (conL sw sh xs lev).length ≤ 600 := by
  unfold conL
  split
  · exact ctL_len sw sh xs lev
  · exact Nat.zero_le _
set_option maxHeartbeats 1000000 in
theorem implCt_any (sw sh : Int) (A : Option Addr) (c : Nat) (xs : List Nat) (lev : Nat) (w : World) (hA : FRd w A xs) (hn : xs.length ≤ maxLen) :
    Calls Try.prog 18 #[shv sw sh A xs.length c, .float .f32 lev] w (CListB w (conL sw sh xs lev) (conB sw sh xs lev)) := by
  have hA1 := Rd.below hA (below_alloc _ (.cells #[.int .i64 sw, .int .i64 sh, .slice A xs.length c] 29))
  cases ho : ctOk sw sh xs lev
  · have B := Lib.hid (con_no ho)
    have HO := Lib.hid ho
    clear ho
    go_enter Try.func18, Try.ntmps18
    go_wp2_with fail
    refine (implCon_any sw sh A c xs lev _ (by first | exact hA1 | exact hA) hn).mono ?_
    rintro e w1 ⟨A', c', P, rfl, ho, hc, hb⟩
    rw [HO.out]
    have hb' := Below.step (below_alloc _ _) hb
    clear hc hb
    go_wp2
    go_ret2
    exact CListB.no B.out.1 B.out.2 hb'
  · have HO := Lib.hid ho
    have hlen := ctL_len sw sh xs lev
    cases hf : finQ (ctL sw sh xs lev)
    · have B := Lib.hid (con_fin hf)
      have HF := Lib.hid hf
      clear ho hf
      go_enter Try.func18, Try.ntmps18
      go_wp2_with fail
      refine (implCon_any sw sh A c xs lev _ (by first | exact hA1 | exact hA) hn).mono ?_
      rintro e w1 ⟨A', c', P, rfl, ho, hc, hb⟩
      rw [HO.out]
      have hb' := Below.step (below_alloc _ _) hb
      have hl : P.length ≤ maxLen := by rw [← cp_len, hc]; unfold maxLen; omega
      have hF2 : finCL P = false := by rw [← finQ_cp, hc]; exact HF.out
      have HF2 := Lib.hid hF2
      clear hc hb hlen hF2
      go_wp2_with fail
      refine (areFinC_any A' c' P _ (by exact ho.1) hl).mono ?_
      rintro e w2 ⟨rfl, m, rfl⟩
      rw [HF2.out]
      go_wp2
      go_ret2
      exact CListB.no B.out.1 B.out.2 (below_drewN hb' _)
    · have B := Lib.hid (con_yes ho hf)
      have HF := Lib.hid hf
      clear ho hf
      go_enter Try.func18, Try.ntmps18
      go_wp2_with fail
      refine (implCon_any sw sh A c xs lev _ (by first | exact hA1 | exact hA) hn).mono ?_
      rintro e w1 ⟨A', c', P, rfl, ho, hc, hb⟩
      rw [HO.out]
      have hb' := Below.step (below_alloc _ _) hb
      have hl : P.length ≤ maxLen := by rw [← cp_len, hc]; unfold maxLen; omega
      have hF2 : finCL P = true := by rw [← finQ_cp, hc]; exact HF.out
      have HF2 := Lib.hid hF2
      have HC := Lib.hid hc
      have ho' := OwnS.less ho (B' := w.heap.size) (by simp)
      clear hc hb hlen hF2 ho
      go_wp2_with fail
      refine (areFinC_any A' c' P _ (by exact ho'.1) hl).mono ?_
      rintro e w2 ⟨rfl, m, rfl⟩
      rw [HF2.out]
      go_wp2
      go_ret2
      rw [B.out.1, B.out.2]
      exact ⟨A', c', P, rfl, ho'.drewN _, HC.out, below_drewN hb' _⟩
set_option maxHeartbeats 2000000 in
theorem specCt_any (sw sh : Int) (A : Option Addr) (c : Nat) (xs : List Nat) (lev : Nat) (w : World) (hA : FRd w A xs) (hn : xs.length ≤ maxLen) :
    Calls Try.prog 17 #[shv sw sh A xs.length c, .float .f32 lev] w (CListB w (conL sw sh xs lev) (conB sw sh xs lev)) := by
  have hA1 := Rd.below hA (below_alloc _ (.cells #[.int .i64 sw, .int .i64 sh, .slice A xs.length c] 29))
  cases hs : shB sw sh xs
  · have B := Lib.hid (con_no (ct_sheet (lev := lev) hs))
    go_enter Try.func17, Try.ntmps17
    go_wp2_with fail
    refine (l05Is_any _ sw sh A c xs _ hA1 hn (by simp) (by simp) (by simp)).mono ?_
    rintro e w1 ⟨rfl, n, rfl⟩
    rw [hs]
    go_wp2
    go_ret2
    exact CListB.no B.out.1 B.out.2 (below_drewN (below_alloc _ _) _)
  · cases hl : finB (cn .f32 lev)
    · have B := Lib.hid (con_no (ct_lev (sw := sw) (sh := sh) (xs := xs) hl))
      go_enter Try.func17, Try.ntmps17
      go_wp2_with fail
      refine (l05Is_any _ sw sh A c xs _ hA1 hn (by simp) (by simp) (by simp)).mono ?_
      rintro e w1 ⟨rfl, n, rfl⟩
      rw [hs]
      go_wp2_with fail
      refine (l01Finite_any _ _).mono ?_
      rintro e w2 ⟨rfl, n2, rfl⟩
      rw [hl]
      go_wp2
      go_ret2
      exact CListB.no B.out.1 B.out.2 (below_drewN (below_alloc _ _) _)
    · obtain ⟨W, H, rfl, rfl, ho, hL⟩ := ct_nat hs hl
      have hlen := ctL_len W H xs lev
      have HO := Lib.hid ho
      have HL := Lib.hid hL
      clear hL
      obtain ⟨w0, hw0⟩ : ∃ w0, w0 = w.alloc (.cells #[.int .i64 W, .int .i64 H, .slice A xs.length c] 29) := ⟨_, rfl⟩
      have b0 : w0.cell? ⟨w.heap.size, 0, none⟩ = some (.int .i64 W) := by rw [hw0]; simp
      have b1 : w0.cell? ⟨w.heap.size, 1, none⟩ = some (.int .i64 H) := by rw [hw0]; simp
      have b2 : w0.cell? ⟨w.heap.size, 2, none⟩ = some (.slice A xs.length c) := by rw [hw0]; simp
      have K0 : Below w.heap.size w w0 := by rw [hw0]; exact below_alloc _ _
      have hA0 := Rd.below hA K0
      have zz : w.heap.size ≤ w0.heap.size := K0.size
      go_enter Try.func17, Try.ntmps17
      go_wp2_with fail
      rw [← hw0]
      clear hw0
      refine (l05Is_any _ _ _ A c xs _ hA0 hn b0 b1 b2).mono ?_
      rintro e w1 ⟨rfl, n, rfl⟩
      rw [hs]
      go_wp2_with fail
      refine (l01Finite_any _ _).mono ?_
      rintro e w2 ⟨rfl, n2, rfl⟩
      rw [hl]
      go_wp2_with fail
      refine (l05Contour_any W H A c xs lev _ _ (by exact hA0) hs (by exact b0) (by exact b1) (by exact b2)).mono ?_
      rintro e w3 ⟨A', c', P, rfl, ho3, hc3, hb3⟩
      rw [← HL.out] at hc3
      have hPl : P.length ≤ 600 := by rw [← cp_len, hc3]; exact hlen
      have HC := Lib.hid hc3
      have HQ : Hid (finQ (ctL W H xs lev) = finCL P) := Lib.hid (by rw [← hc3]; exact finQ_cp P)
      have K3 : Below w.heap.size w w3 := Below.step (below_drewN K0 _) hb3
      have ho' := OwnS.less ho3 (B' := w.heap.size) zz
      have hR : CRd w3 A' P := ho'.1
      clear hc3 hb3 hlen ho3 b0 b1 b2 K0 hA0
      go_wp2_with fail
      go_loopw [19] (fun i wr => ∃ k m : Nat, k ≤ P.length ∧ i = .int .i64 k ∧ wr = w3.drewN m ∧ Hid (finCL (P.take k) = true)) (fun i _ => P.length - (intOf i).toNat)
      case atStart => exact ⟨0, 0, Nat.zero_le _, rfl, rfl, Lib.hid rfl⟩
      case round =>
        obtain ⟨k, m, hk, rfl, rfl, HF⟩ := hrel
        by_cases hlt : k < P.length
        · obtain ⟨b, o, rfl, hb, hc⟩ := hR.at_ hlt
          cases hf : finC P[k]
          · have HX := Lib.hid (con_fin (HQ.out.trans (finCL_bad hlt hf)))
            generalize P[k] = pk at hc hf
            have HF := Lib.hid hf
            clear hf
            go_wp2_with (go_at_call 45; refine (l01CFinite_any _ _ _).mono ?_; rintro e w' ⟨rfl, n', rfl⟩; rw [HF.out])
            go_ret2
            exact CListB.no HX.out.1 HX.out.2 (below_drewN K3 _)
          · have HX := Lib.hid (finCL_step hlt HF.out hf)
            generalize P[k] = pk at hc hf
            have HF := Lib.hid hf
            clear hf
            go_wp2_with (go_at_call 45; refine (l01CFinite_any _ _ _).mono ?_; rintro e w' ⟨rfl, n', rfl⟩; rw [HF.out])
            go_roundw
            case rel => exact ⟨k + 1, _, by omega, by go_num, rfl, HX⟩
            case measure => simp [intOf]; omega
        · obtain rfl : k = P.length := by omega
          have B := Lib.hid (con_yes HO.out (HQ.out.trans (by have := HF.out; rwa [List.take_length] at this)))
          go_wp2
          go_ret2
          rw [B.out.1, B.out.2]
          exact ⟨A', c', P, rfl, ho'.drewN _, HC.out, below_drewN K3 _⟩
end Go.Proofs.Ytcdipgkdbannmaa
