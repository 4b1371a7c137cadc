/- MassOfSheet, both sides. -/
import Derived.Test.YtenepnbickpcjaaRangeS
namespace Go.Proofs.Ytenepnbickpcjaa
open Go.RowKit

/-- The numbers of a list, added one after the other. -/
def sumF (l : List Nat) : Nat := l.foldl (fun a x => fop .add .f32 a x) (cn .f32 0)
theorem sumF_snoc (l : List Nat) (x : Nat) : sumF (l ++ [x]) = fop .add .f32 (sumF l) x := by simp [sumF]
theorem NumR.w {w w1 : World} {X : Nat} {ok : Bool} {e : Ending} {w' : World} (h : NumR w1 X ok e w') (k : Below w.heap.size w w1) : NumB w X ok e w' := by
  obtain ⟨b, n, rfl, h, rfl⟩ := h
  exact ⟨b, rfl, h, below_drewN k n⟩

set_option maxHeartbeats 1000000 in
theorem sumOf_any (A : Option Addr) (c : Nat) (xs : List Nat) (w : World) (hA : FRd w A xs) (hn : xs.length ≤ 1000) :
    Calls Try.prog 57 #[.slice A xs.length c] w (FloatR w (sumF (cl xs))) := by
  go_enter Try.func57, Try.ntmps57
  go_wp2_with fail
  go_loopw [3, 8] (fun s i wr => ∃ k b m : Nat, k ≤ xs.length ∧ i = .int .i64 k ∧ s = .float .f32 b ∧ wr = w.drewN m ∧ Hid (cn .f32 b = sumF (cl (xs.take k)))) (fun _ i _ => xs.length - (intOf i).toNat)
  case atStart => exact ⟨0, _, 0, by omega, rfl, rfl, rfl, Lib.hid rfl⟩
  case round =>
    obtain ⟨k, b0, m, hk, rfl, rfl, rfl, HS⟩ := hrel
    by_cases hlt : k < xs.length
    · obtain ⟨b, o, rfl, hb, hc⟩ := hA.at_ hlt
      go_wp2
      go_roundw
      case rel => exact ⟨k + 1, _, _, by omega, by go_num, rfl, rfl, Lib.hid (by rw [cl_succ hlt, sumF_snoc, cn_fres, HS.out])⟩
      case measure => simp [intOf]; omega
    · go_wp2
      go_ret
      obtain rfl : k = xs.length := by omega
      have e1 := HS.out
      rw [List.take_length] at e1
      exact ⟨_, m, rfl, e1, rfl⟩

def msX (sw sh : Int) (xs : List Nat) : Nat := if shB sw sh xs then numX (sumF (cl xs)) else cn .f32 0
def msB (sw sh : Int) (xs : List Nat) : Bool := shB sw sh xs && finB (sumF (cl xs))
set_option maxHeartbeats 1000000 in
theorem specMass_any (sw sh : Int) (A : Option Addr) (c : Nat) (xs : List Nat) (w : World) (hA : FRd w A xs) (hn : xs.length ≤ maxLen) :
    Calls Try.prog 23 #[shv sw sh A xs.length c] w (NumB w (msX sw sh xs) (msB sw sh xs)) := by
  have hA1 := Rd.below hA (below_alloc _ (.cells #[.int .i64 sw, .int .i64 sh, .slice A xs.length c] 33))
  cases hs : shB sw sh xs
  · go_enter Try.func23, Try.ntmps23
    go_wp2_with fail
    refine (l05Is_any _ sw sh A c xs _ hA1 hn (by simp) (by simp) (by simp)).mono ?_
    rintro e w1 ⟨rfl, n, rfl⟩
    rw [hs]
    go_wp2
    go_ret2
    exact ⟨_, by rw [msB, hs]; rfl, by simp [msX, hs], below_drewN (below_alloc _ _) _⟩
  · obtain ⟨h0, h1⟩ := shB_pos hs
    go_enter Try.func23, Try.ntmps23
    go_wp2_with fail
    refine (l05Is_any _ sw sh A c xs _ hA1 hn (by simp) (by simp) (by simp)).mono ?_
    rintro e w1 ⟨rfl, n, rfl⟩
    rw [hs]
    go_wp2_with fail
    have c2 : (w.alloc (.cells #[.int .i64 sw, .int .i64 sh, .slice A xs.length c] 33)).cell? ⟨w.heap.size, 2, none⟩ = some (.slice A xs.length c) := by simp
    have K1 := below_alloc w (.cells #[.int .i64 sw, .int .i64 sh, .slice A xs.length c] 33)
    generalize hw1 : w.alloc (.cells #[.int .i64 sw, .int .i64 sh, .slice A xs.length c] 33) = w1 at *
    clear hw1
    go_loopw [4, 11] (fun s i wr => ∃ k b m : Nat, k ≤ xs.length ∧ i = .int .i64 k ∧ s = .float .f32 b ∧ wr = w1.drewN m ∧ Hid (cn .f32 b = sumF (cl (xs.take k)))) (fun _ i _ => xs.length - (intOf i).toNat)
    case atStart => exact ⟨0, _, n, by omega, rfl, rfl, rfl, Lib.hid rfl⟩
    case round =>
      obtain ⟨k, b0, m, hk, rfl, rfl, rfl, HS⟩ := hrel
      by_cases hlt : k < xs.length
      · obtain ⟨b, o, rfl, hb, hc⟩ := FRd.at_ (w := w1) hA1 hlt
        go_wp2
        go_roundw
        case rel => exact ⟨k + 1, _, _, by omega, by go_num, rfl, rfl, Lib.hid (by rw [cl_succ hlt, sumF_snoc, cn_fres, HS.out])⟩
        case measure => simp [intOf]; omega
      · obtain rfl : k = xs.length := by omega
        have e1 := HS.out
        rw [List.take_length] at e1
        have E1 := Lib.hid e1
        clear e1 HS
        go_wp2_with fail
        refine (l02Number_any _ _).mono ?_
        rintro e w3 ⟨b3, n3, rfl, e3, rfl⟩
        have E3 := Lib.hid e3
        clear e3
        go_wp2
        go_ret2
        exact ⟨_, ret_num (by rw [msB, hs, E1.out]; rfl), by rw [E3.out, msX, hs, E1.out]; rfl, below_drewN K1 (m + n3)⟩
set_option maxHeartbeats 1000000 in
theorem implMass_any (sw sh : Int) (A : Option Addr) (c : Nat) (xs : List Nat) (w : World) (hA : FRd w A xs) (hn : xs.length ≤ maxLen) :
    Calls Try.prog 24 #[shv sw sh A xs.length c] w (NumB w (msX sw sh xs) (msB sw sh xs)) := by
  have hA1 := Rd.below hA (below_alloc _ (.cells #[.int .i64 sw, .int .i64 sh, .slice A xs.length c] 33))
  cases hs : shB sw sh xs
  · go_enter Try.func24, Try.ntmps24
    go_wp2_with fail
    refine (implValid_any sw sh A c xs _ hA1 hn).mono ?_
    rintro e w1 ⟨rfl, k1⟩
    rw [hs]
    have K1 := Below.step (below_alloc _ _) k1
    clear k1
    go_wp2
    go_ret2
    exact ⟨_, by rw [msB, hs]; rfl, by simp [msX, hs], K1⟩
  · obtain ⟨h0, h1⟩ := shB_pos hs
    go_enter Try.func24, Try.ntmps24
    go_wp2_with fail
    refine (implValid_any sw sh A c xs _ hA1 hn).mono ?_
    rintro e w1 ⟨rfl, k1⟩
    rw [hs]
    have c2 : w1.cell? ⟨w.heap.size, 2, none⟩ = some (.slice A xs.length c) := (k1.cell (by simp)).trans (by simp)
    have hA2 := Rd.below hA1 k1
    have K1 := Below.step (below_alloc _ _) k1
    clear k1
    go_wp2_with fail
    refine (sumOf_any A c xs _ hA2 (by omega)).mono ?_
    rintro e w2 ⟨b, n2, rfl, e1, rfl⟩
    have E1 := Lib.hid e1
    clear e1
    go_wp2_with fail
    refine (ifNumber_any _ _).mono ?_
    rintro e w3 ⟨b3, n3, rfl, e3, rfl⟩
    have E3 := Lib.hid e3
    clear e3
    go_wp2
    go_ret2
    exact ⟨_, ret_num (by rw [msB, hs, E1.out]; rfl), by rw [E3.out, msX, hs, E1.out]; rfl, below_drewN K1 (n2 + n3)⟩
end Go.Proofs.Ytenepnbickpcjaa
