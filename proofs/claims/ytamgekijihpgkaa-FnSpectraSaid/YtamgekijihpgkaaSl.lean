/- Sums, slopes of lists, both sides. -/
import Derived.Test.YtamgekijihpgkaaSpan
import Derived.Test.YtamgekijihpgkaaMb
namespace Go.Proofs.Ytamgekijihpgkaa
open Go.RowKit

/-- The numbers of a list, added one after the other. -/
def sumF (l : List Nat) : Nat := l.foldl (fun a x => fop .add .f32 a x) (cn .f32 0)
theorem sumF_snoc (l : List Nat) (x : Nat) : sumF (l ++ [x]) = fop .add .f32 (sumF l) x := by simp [sumF]
theorem cl_snoc (l : List Nat) (x : Nat) : cl (l ++ [x]) = cl l ++ [cn .f32 x] := by simp [cl]
theorem cl_get {xs : List Nat} {k : Nat} (h : k < xs.length) : (cl xs).getD k 0 = cn .f32 xs[k] := by simp [cl, h]
def prods (l m : List Nat) (n : Nat) : List Nat := (List.range n).map fun k => fop .mul .f32 (l.getD k 0) (m.getD k 0)
theorem prods_succ (l m : List Nat) (n : Nat) : prods l m (n + 1) = prods l m n ++ [fop .mul .f32 (l.getD n 0) (m.getD n 0)] := by simp [prods, List.range_succ]

def slN (n : Nat) : Nat := cn .f32 (floatOfInt .f32 (n : Int))
def slE (X : List Nat) : Nat := fop .sub .f32 (fop .mul .f32 (slN X.length) (sumF (prods X X X.length))) (fop .mul .f32 (sumF X) (sumF X))
def slS (X Y : List Nat) : Nat := fop .quo .f32 (fop .sub .f32 (fop .mul .f32 (slN X.length) (sumF (prods X Y X.length))) (fop .mul .f32 (sumF X) (sumF Y))) (slE X)
def slB (X Y : List Nat) : Nat := fop .quo .f32 (fop .sub .f32 (sumF Y) (fop .mul .f32 (slS X Y) (sumF X))) (slN X.length)

def Fl3 (w : World) (X Y Z : Nat) (e : Ending) (w' : World) : Prop := ∃ b c d n, e = .returned (.tuple #[.float .f32 b, .float .f32 c, .float .f32 d]) ∧ cn .f32 b = X ∧ cn .f32 c = Y ∧ cn .f32 d = Z ∧ w' = w.drewN n

theorem sumOf_any (A : Option Addr) (c : Nat) (xs : List Nat) (w : World) (hA : FRd w A xs) (hn : xs.length ≤ maxLen) :
    Calls Try.prog 53 #[.slice A xs.length c] w (FloatR w (sumF (cl xs))) := by
  unfold maxLen at hn
  go_enter Try.func53, Try.ntmps53
  go_wp2
  go_loopw [3, 8] (fun s i wr => ∃ k b m : Nat, k ≤ xs.length ∧ i = .int .i64 k ∧ s = .float .f32 b ∧ wr = w.drewN m ∧ Hid (cn .f32 b = sumF (cl (xs.take k)))) (fun _ i _ => xs.length - (intOf i).toNat)
  case atStart => exact ⟨0, _, 0, Nat.zero_le _, rfl, rfl, rfl, Lib.hid rfl⟩
  case round =>
    obtain ⟨k, b, m, hk, rfl, rfl, rfl, HS⟩ := hrel
    by_cases hlt : k < xs.length
    · obtain ⟨b', o', rfl, _, hc⟩ := hA.at_ hlt
      go_wp2
      go_roundw
      case rel => exact ⟨k + 1, _, _, by omega, by go_num, rfl, rfl, Lib.hid (by rw [cl_succ hlt, sumF_snoc, cn_fres, HS.out])⟩
      case measure => simp [intOf]; omega
    · go_wp2
      go_ret
      obtain rfl : k = xs.length := by omega
      have e1 := HS.out
      rw [List.take_length] at e1
      exact ⟨_, _, rfl, e1, rfl⟩

set_option maxHeartbeats 1000000 in
set_option maxRecDepth 100000 in
theorem slope_any (A B : Option Addr) (c c' : Nat) (xs ys : List Nat) (w : World) (hA : FRd w A xs) (hB : FRd w B ys) (hn : xs.length ≤ 256) (hl1 : xs.length ≤ ys.length) (hl2 : ys.length ≤ xs.length) :
    Calls Try.prog 32 #[.slice A xs.length c, .slice B ys.length c'] w (Fl3 w (slS (cl xs) (cl ys)) (slB (cl xs) (cl ys)) (slE (cl xs))) := by
  have hm1 : xs.length ≤ maxLen := by unfold maxLen; omega
  have hm2 : ys.length ≤ maxLen := by unfold maxLen; omega
  go_enter Try.func32, Try.ntmps32
  go_wp2_with fail
  refine (sumOf_any _ _ _ _ hA hm1).mono ?_
  rintro e w1 ⟨ba, n1, rfl, hx1, rfl⟩
  have HX := Lib.hid hx1
  clear hx1
  go_wp2_with fail
  refine (sumOf_any _ _ _ (w.drewN n1) hB hm2).mono ?_
  rintro e w2 ⟨bb, n2, rfl, hx2, rfl⟩
  have HY := Lib.hid hx2
  clear hx2
  go_wp2_with fail
  go_loopw [10, 11, 12, 24] (fun s t _ i wr => ∃ k b b2 m : Nat, k ≤ xs.length ∧ i = .int .i64 k ∧ s = .float .f32 b ∧ t = .float .f32 b2 ∧ wr = w.drewN m ∧ Hid (cn .f32 b = sumF (prods (cl xs) (cl xs) k)) ∧ Hid (cn .f32 b2 = sumF (prods (cl xs) (cl ys) k))) (fun _ _ _ i _ => xs.length - (intOf i).toNat)
  case atStart => exact ⟨0, _, _, _, Nat.zero_le _, rfl, rfl, rfl, rfl, Lib.hid rfl, Lib.hid rfl⟩
  case round =>
    obtain ⟨k, b, b2, m, hk, rfl, rfl, rfl, rfl, HC, HD⟩ := hrel
    by_cases hlt : k < xs.length
    · have hlt2 : k < ys.length := by omega
      obtain ⟨b', o', rfl, _, hc⟩ := hA.at_ hlt
      obtain ⟨b3, o3, rfl, _, hc3⟩ := hB.at_ hlt2
      go_wp2_with fail
      go_region
      go_wp2_with fail
      go_region
      go_wp2
      go_roundw
      case rel => exact ⟨k + 1, _, _, _, by omega, by go_num, rfl, rfl, rfl, Lib.hid (by rw [prods_succ, sumF_snoc, cn_fres, HC.out, cl_get hlt]; simp only [cn_fres]), Lib.hid (by rw [prods_succ, sumF_snoc, cn_fres, HD.out, cl_get hlt, cl_get hlt2]; simp only [cn_fres])⟩
      case measure => simp [intOf]; omega
    · obtain rfl : k = xs.length := by omega
      go_wp2
      go_ret3
      have e1 := HC.out
      have e2 := HD.out
      refine ⟨_, _, _, _, rfl, ?_, ?_, ?_, rfl⟩
      · simp only [cn_fres, HX.out, HY.out, e1, e2]
        unfold slS slE slN
        rw [cl_len]
      · simp only [cn_fres, HX.out, HY.out, e1, e2]
        unfold slB slS slE slN
        rw [cl_len]
      · simp only [cn_fres, HX.out, e1]
        unfold slE slN
        rw [cl_len]

end Go.Proofs.Ytamgekijihpgkaa
