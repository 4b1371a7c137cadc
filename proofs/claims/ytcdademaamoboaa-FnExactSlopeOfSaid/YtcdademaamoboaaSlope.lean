/- SlopeOf, both sides. -/
import Derived.Test.YtcdademaamoboaaStep
namespace Go.Proofs.Ytcdademaamoboaa
open Go.RowKit

def prods (l m : List Nat) (n : Nat) : List Nat := (List.range n).map fun k => fop .mul .f32 (l.getD k 0) (m.getD k 0)
theorem prods_succ (l m : List Nat) (n : Nat) : prods l m (n + 1) = prods l m n ++ [fop .mul .f32 (l.getD n 0) (m.getD n 0)] := by simp [prods, List.range_succ]

def slN (n : Nat) : Nat := cn .f32 (floatOfInt .f32 (n : Int))
def slE (X : List Nat) : Nat := fop .sub .f32 (fop .mul .f32 (slN X.length) (sumF (prods X X X.length))) (fop .mul .f32 (sumF X) (sumF X))
def slS (X Y : List Nat) : Nat := fop .quo .f32 (fop .sub .f32 (fop .mul .f32 (slN X.length) (sumF (prods X Y X.length))) (fop .mul .f32 (sumF X) (sumF Y))) (slE X)
def slB (X Y : List Nat) : Nat := fop .quo .f32 (fop .sub .f32 (sumF Y) (fop .mul .f32 (slS X Y) (sumF X))) (slN X.length)
def zeroB (x : Nat) : Bool := ford .f32 x (cn .f32 0) == some .eq

def Sl3 (w : World) (X Y : Nat) (ok : Bool) (e : Ending) (w' : World) : Prop := ∃ b c n, e = .returned (.tuple #[.float .f32 b, .float .f32 c, .bool ok]) ∧ cn .f32 b = X ∧ cn .f32 c = Y ∧ w' = w.drewN n
def Fl3 (w : World) (X Y Z : Nat) (e : Ending) (w' : World) : Prop := ∃ b c d n, e = .returned (.tuple #[.float .f32 b, .float .f32 c, .float .f32 d]) ∧ cn .f32 b = X ∧ cn .f32 c = Y ∧ cn .f32 d = Z ∧ w' = w.drewN n

theorem sumOf_any (A : Option Addr) (c : Nat) (xs : List Nat) (w : World) (hA : FRd w A xs) (hn : xs.length ≤ maxLen) :
    Calls Try.prog 80 #[.slice A xs.length c] w (FloatR w (sumF (cl xs))) := by
  unfold maxLen at hn
  go_enter Try.func80, Try.ntmps80
  go_wp2
  go_loopw [3, 8] (fun s i wr => ∃ k b m : Nat, k ≤ xs.length ∧ i = .int .i64 k ∧ s = .float .f32 b ∧ wr = w.drewN m ∧ Hid (cn .f32 b = sumF (cl (xs.take k)))) (fun _ i _ => xs.length - (intOf i).toNat)
  case atStart => exact ⟨0, _, 0, Nat.zero_le _, rfl, rfl, rfl, Lib.hid rfl⟩
  case round =>
    obtain ⟨k, b, m, hk, rfl, rfl, rfl, HS⟩ := hrel
    by_cases hlt : k < xs.length
    · obtain ⟨b', o', rfl, _, hc⟩ := hA.at_ hlt
      go_wp2
      go_roundw
      case rel => exact ⟨k + 1, _, _, by omega, by go_num, rfl, rfl, Lib.hid (by rw [cl_succ hlt, sumF_snoc, cn_fres, HS.out])⟩
      case measure => simp [intOf]; omega
    · go_wp2
      go_ret
      obtain rfl : k = xs.length := by omega
      have e1 := HS.out
      rw [List.take_length] at e1
      exact ⟨_, _, rfl, e1, rfl⟩

set_option maxHeartbeats 1000000 in
set_option maxRecDepth 100000 in
theorem slope_any (A B : Option Addr) (c c' : Nat) (xs ys : List Nat) (w : World) (hA : FRd w A xs) (hB : FRd w B ys) (hn : xs.length ≤ 256) (hl1 : xs.length ≤ ys.length) (hl2 : ys.length ≤ xs.length) :
    Calls Try.prog 59 #[.slice A xs.length c, .slice B ys.length c'] w (Fl3 w (slS (cl xs) (cl ys)) (slB (cl xs) (cl ys)) (slE (cl xs))) := by
  have hm1 : xs.length ≤ maxLen := by unfold maxLen; omega
  have hm2 : ys.length ≤ maxLen := by unfold maxLen; omega
  go_enter Try.func59, Try.ntmps59
  go_wp2_with fail
  refine (sumOf_any _ _ _ _ hA hm1).mono ?_
  rintro e w1 ⟨ba, n1, rfl, hx1, rfl⟩
  have HX := Lib.hid hx1
  clear hx1
  go_wp2_with fail
  refine (sumOf_any _ _ _ (w.drewN n1) hB hm2).mono ?_
  rintro e w2 ⟨bb, n2, rfl, hx2, rfl⟩
  have HY := Lib.hid hx2
  clear hx2
  go_wp2_with fail
  go_loopw [10, 11, 12, 24] (fun s t _ i wr => ∃ k b b2 m : Nat, k ≤ xs.length ∧ i = .int .i64 k ∧ s = .float .f32 b ∧ t = .float .f32 b2 ∧ wr = w.drewN m ∧ Hid (cn .f32 b = sumF (prods (cl xs) (cl xs) k)) ∧ Hid (cn .f32 b2 = sumF (prods (cl xs) (cl ys) k))) (fun _ _ _ i _ => xs.length - (intOf i).toNat)
  case atStart => exact ⟨0, _, _, _, Nat.zero_le _, rfl, rfl, rfl, rfl, Lib.hid rfl, Lib.hid rfl⟩
  case round =>
    obtain ⟨k, b, b2, m, hk, rfl, rfl, rfl, rfl, HC, HD⟩ := hrel
    by_cases hlt : k < xs.length
    · have hlt2 : k < ys.length := by omega
      obtain ⟨b', o', rfl, _, hc⟩ := hA.at_ hlt
      obtain ⟨b3, o3, rfl, _, hc3⟩ := hB.at_ hlt2
      go_wp2_with fail
      go_region
      go_wp2_with fail
      go_region
      go_wp2
      go_roundw
      case rel => exact ⟨k + 1, _, _, _, by omega, by go_num, rfl, rfl, rfl, Lib.hid (by rw [prods_succ, sumF_snoc, cn_fres, HC.out, cl_get hlt]; simp only [cn_fres]), Lib.hid (by rw [prods_succ, sumF_snoc, cn_fres, HD.out, cl_get hlt, cl_get hlt2]; simp only [cn_fres])⟩
      case measure => simp [intOf]; omega
    · obtain rfl : k = xs.length := by omega
      go_wp2
      go_ret3
      have e1 := HC.out
      have e2 := HD.out
      refine ⟨_, _, _, _, rfl, ?_, ?_, ?_, rfl⟩
      · simp only [cn_fres, HX.out, HY.out, e1, e2]
        unfold slS slE slN
        rw [cl_len]
      · simp only [cn_fres, HX.out, HY.out, e1, e2]
        unfold slB slS slE slN
        rw [cl_len]
      · simp only [cn_fres, HX.out, e1]
        unfold slE slN
        rw [cl_len]

theorem ret3b {a b : Bool} {x y : Nat} (h : a = b) : Ending.returned (.tuple #[.float .f32 x, .float .f32 y, .bool a]) = .returned (.tuple #[.float .f32 x, .float .f32 y, .bool b]) := by rw [h]
def slOk (X Y : List Nat) : Bool := !zeroB (slE X) && finB (slS X Y) && finB (slB X Y)

set_option maxHeartbeats 2000000 in
set_option maxRecDepth 100000 in
theorem l06Slope_yes (A B : Option Addr) (c c' : Nat) (xs ys : List Nat) (w : World) (hA : FRd w A xs) (hB : FRd w B ys) (hx : lstB xs = true) (hy : lstB ys = true) (hn : xs.length ≤ 256) (h2 : 2 ≤ xs.length) (hl1 : xs.length ≤ ys.length) (hl2 : ys.length ≤ xs.length) :
    Calls Try.prog 58 #[.slice A xs.length c, .slice B ys.length c'] w (Sl3 w (slS (cl xs) (cl ys)) (slB (cl xs) (cl ys)) (slOk (cl xs) (cl ys))) := by
  have hm1 : xs.length ≤ maxLen := by unfold maxLen; omega
  have hm2 : ys.length ≤ maxLen := by unfold maxLen; omega
  have hne : ((xs.length : Int) != ys.length) = false := by rw [bne_eq_false_iff_eq]; omega
  have hd2 : decide ((xs.length : Int) < 2) = false := by simp; omega
  go_enter Try.func58, Try.ntmps58
  go_wp2_with fail
  refine (l06List_any _ _ _ _ hA hm1).mono ?_
  rintro e w1 ⟨rfl, n1, rfl⟩
  rw [hx]
  go_wp2_with fail
  refine (l06List_any _ _ _ (w.drewN n1) hB hm2).mono ?_
  rintro e w1 ⟨rfl, n2, rfl⟩
  rw [hy]
  go_wp2_with fail
  go_loopw [8, 9, 10, 11, 12] (fun sa sb s t i wr => ∃ k a a2 b b2 m : Nat, k ≤ xs.length ∧ i = .int .i64 k ∧ sa = .float .f32 a ∧ sb = .float .f32 a2 ∧ s = .float .f32 b ∧ t = .float .f32 b2 ∧ wr = w.drewN m ∧
    Hid (cn .f32 a = sumF (cl (xs.take k))) ∧ Hid (cn .f32 a2 = sumF (cl (ys.take k))) ∧ Hid (cn .f32 b = sumF (prods (cl xs) (cl xs) k)) ∧ Hid (cn .f32 b2 = sumF (prods (cl xs) (cl ys) k))) (fun _ _ _ _ i _ => xs.length - (intOf i).toNat)
  case atStart => exact ⟨0, _, _, _, _, _, Nat.zero_le _, rfl, rfl, rfl, rfl, rfl, rfl, Lib.hid rfl, Lib.hid rfl, Lib.hid rfl, Lib.hid rfl⟩
  case round =>
    obtain ⟨k, a, a2, b, b2, m, hk, rfl, rfl, rfl, rfl, rfl, rfl, HX, HY, HC, HD⟩ := hrel
    by_cases hlt : k < xs.length
    · have hlt2 : k < ys.length := by omega
      obtain ⟨b', o', rfl, _, hc⟩ := hA.at_ hlt
      obtain ⟨b3, o3, rfl, _, hc3⟩ := hB.at_ hlt2
      go_wp2_with fail
      go_region
      go_wp2_with fail
      go_region
      go_wp2
      go_roundw
      case rel => exact ⟨k + 1, _, _, _, _, _, by omega, by go_num, rfl, rfl, rfl, rfl, rfl, Lib.hid (by rw [cl_succ hlt, sumF_snoc, cn_fres, HX.out]), Lib.hid (by rw [cl_succ hlt2, sumF_snoc, cn_fres, HY.out]), Lib.hid (by rw [prods_succ, sumF_snoc, cn_fres, HC.out, cl_get hlt]; simp only [cn_fres]), Lib.hid (by rw [prods_succ, sumF_snoc, cn_fres, HD.out, cl_get hlt, cl_get hlt2]; simp only [cn_fres])⟩
      case measure => simp [intOf]; omega
    · obtain rfl : k = xs.length := by omega
      have f1 := HX.out
      have f2 := HY.out
      rw [List.take_length] at f1
      rw [List.take_of_length_le hl2] at f2
      have e1 := HC.out
      have e2 := HD.out
      have F1 := Lib.hid f1
      have F2 := Lib.hid f2
      have E1 := Lib.hid e1
      have E2 := Lib.hid e2
      clear f1 f2 e1 e2
      have hE : fop .sub .f32 (fop .mul .f32 (cn .f32 (floatOfInt .f32 (xs.length : Int))) (cn .f32 b)) (fop .mul .f32 (cn .f32 a) (cn .f32 a)) = slE (cl xs) := by
        rw [F1.out, E1.out]; unfold slE slN; rw [cl_len]
      have hS : fop .quo .f32 (fop .sub .f32 (fop .mul .f32 (cn .f32 (floatOfInt .f32 (xs.length : Int))) (cn .f32 b2)) (fop .mul .f32 (cn .f32 a) (cn .f32 a2))) (slE (cl xs)) = slS (cl xs) (cl ys) := by
        rw [F1.out, F2.out, E2.out]; unfold slS slN; rw [cl_len]
      have hBs : fop .quo .f32 (fop .sub .f32 (cn .f32 a2) (fop .mul .f32 (slS (cl xs) (cl ys)) (cn .f32 a))) (cn .f32 (floatOfInt .f32 (xs.length : Int))) = slB (cl xs) (cl ys) := by
        rw [F1.out, F2.out]; unfold slB slN; rw [cl_len]
      have hz1 : (ford .f32 (slE (cl xs)) (cn .f32 0) != some .eq) = !zeroB (slE (cl xs)) := rfl
      go_wp2_with (go_at_call 79; refine (l01Finite_any _ _).mono ?_; rintro e w' ⟨rfl, n', rfl⟩)
      · have z : zeroB (slE (cl xs)) = false := by assumption
        have s : finB (slS (cl xs) (cl ys)) = true := by assumption
        go_ret3
        exact ⟨_, _, _, ret3b (by unfold slOk; rw [z, s]; rfl), by simp only [cn_fres, hE, hS], by simp only [cn_fres, hE, hS, hBs], rfl⟩
      · have z : zeroB (slE (cl xs)) = false := by assumption
        have s : finB (slS (cl xs) (cl ys)) = false := by assumption
        go_ret3
        exact ⟨_, _, _, ret3b (by unfold slOk; rw [z, s]; rfl), by simp only [cn_fres, hE, hS], by simp only [cn_fres, hE, hS, hBs], rfl⟩
      · have z : zeroB (slE (cl xs)) = true := by assumption
        go_ret3
        exact ⟨_, _, _, ret3b (by unfold slOk; rw [z]; rfl), by simp only [cn_fres, hE, hS], by simp only [cn_fres, hE, hS, hBs], rfl⟩

def slGood (xs ys : List Nat) : Bool := lstB xs && lstB ys && decide (xs.length = ys.length) && decide (2 ≤ xs.length)

set_option maxHeartbeats 2000000 in
set_option maxRecDepth 100000 in
theorem l06Slope_no (A B : Option Addr) (c c' : Nat) (xs ys : List Nat) (w : World) (hA : FRd w A xs) (hB : FRd w B ys) (hm1 : xs.length ≤ maxLen) (hm2 : ys.length ≤ maxLen) (h : slGood xs ys = false) :
    Calls Try.prog 58 #[.slice A xs.length c, .slice B ys.length c'] w (Sl3 w (cn .f32 0) (cn .f32 0) false) := by
  cases hx : lstB xs
  · clear h
    go_enter Try.func58, Try.ntmps58
    go_wp2_with fail
    refine (l06List_any _ _ _ _ hA hm1).mono ?_
    rintro e w1 ⟨rfl, n1, rfl⟩
    rw [hx]
    go_wp2_with fail
    go_ret3
    exact ⟨_, _, _, rfl, rfl, rfl, rfl⟩
  · cases hy : lstB ys
    · clear h
      go_enter Try.func58, Try.ntmps58
      go_wp2_with fail
      refine (l06List_any _ _ _ _ hA hm1).mono ?_
      rintro e w1 ⟨rfl, n1, rfl⟩
      rw [hx]
      go_wp2_with fail
      refine (l06List_any _ _ _ (w.drewN n1) hB hm2).mono ?_
      rintro e w1 ⟨rfl, n2, rfl⟩
      rw [hy]
      go_wp2_with fail
      go_ret3
      exact ⟨_, _, _, rfl, rfl, rfl, rfl⟩
    · by_cases hl : xs.length = ys.length
      · have hne : ((xs.length : Int) != ys.length) = false := by rw [bne_eq_false_iff_eq]; omega
        have hd2 : decide ((xs.length : Int) < 2) = true := by
          simp [slGood, hx, hy, hl] at h
          simp; omega
        clear hl h
        go_enter Try.func58, Try.ntmps58
        go_wp2_with fail
        refine (l06List_any _ _ _ _ hA hm1).mono ?_
        rintro e w1 ⟨rfl, n1, rfl⟩
        rw [hx]
        go_wp2_with fail
        refine (l06List_any _ _ _ (w.drewN n1) hB hm2).mono ?_
        rintro e w1 ⟨rfl, n2, rfl⟩
        rw [hy]
        go_wp2_with fail
        go_ret3
        exact ⟨_, _, _, rfl, rfl, rfl, rfl⟩
      · have hne : ((xs.length : Int) != ys.length) = true := by rw [bne_iff_ne]; omega
        clear hl h
        go_enter Try.func58, Try.ntmps58
        go_wp2_with fail
        refine (l06List_any _ _ _ _ hA hm1).mono ?_
        rintro e w1 ⟨rfl, n1, rfl⟩
        rw [hx]
        go_wp2_with fail
        refine (l06List_any _ _ _ (w.drewN n1) hB hm2).mono ?_
        rintro e w1 ⟨rfl, n2, rfl⟩
        rw [hy]
        go_wp2_with fail
        go_ret3
        exact ⟨_, _, _, rfl, rfl, rfl, rfl⟩

theorem specSlope_of (A B : Option Addr) (c c' : Nat) (xs ys : List Nat) (w : World) (X Y : Nat) (ok : Bool) (h : Calls Try.prog 58 #[.slice A xs.length c, .slice B ys.length c'] w (Sl3 w X Y ok)) :
    Calls Try.prog 33 #[.slice A xs.length c, .slice B ys.length c'] w (Sl3 w (if ok then X else cn .f32 0) (if ok then Y else cn .f32 0) ok) := by
  have HH := Lib.hid h
  clear h
  cases ok
  all_goals
    go_enter Try.func33, Try.ntmps33
    go_wp2_with fail
    refine HH.out.mono ?_
    rintro e w1 ⟨b, d, n, rfl, hx, hy, rfl⟩
    have HX := Lib.hid hx
    have HY := Lib.hid hy
    clear hx hy
    go_wp2_with fail
    go_ret3
    first
      | exact ⟨_, _, _, rfl, HX.out, HY.out, rfl⟩
      | exact ⟨_, _, _, rfl, rfl, rfl, rfl⟩

set_option maxHeartbeats 2000000 in
theorem implSlope_yes (A B : Option Addr) (c c' : Nat) (xs ys : List Nat) (w : World) (hA : FRd w A xs) (hB : FRd w B ys) (hx : lstB xs = true) (hy : lstB ys = true) (hn : xs.length ≤ 256) (h2 : 2 ≤ xs.length) (hl1 : xs.length ≤ ys.length) (hl2 : ys.length ≤ xs.length) :
    Calls Try.prog 34 #[.slice A xs.length c, .slice B ys.length c'] w (Sl3 w (if slOk (cl xs) (cl ys) then slS (cl xs) (cl ys) else cn .f32 0) (if slOk (cl xs) (cl ys) then slB (cl xs) (cl ys) else cn .f32 0) (slOk (cl xs) (cl ys))) := by
  have hm1 : xs.length ≤ maxLen := by unfold maxLen; omega
  have hm2 : ys.length ≤ maxLen := by unfold maxLen; omega
  have hne : ((xs.length : Int) != ys.length) = false := by rw [bne_eq_false_iff_eq]; omega
  have hd2 : decide ((xs.length : Int) < 2) = false := by simp; omega
  cases hz : zeroB (slE (cl xs))
  · cases hs : finB (slS (cl xs) (cl ys))
    · have hok : slOk (cl xs) (cl ys) = false := by unfold slOk; rw [hz, hs]; rfl
      rw [hok]
      clear hok
      have hz1 : (ford .f32 (slE (cl xs)) (cn .f32 0) == some .eq) = false := hz
      clear hz
      go_enter Try.func34, Try.ntmps34
      go_wp2_with fail
      refine (isList_any _ _ _ _ hA hm1).mono ?_
      rintro e w1 ⟨rfl, n1, rfl⟩
      rw [hx]
      go_wp2_with fail
      refine (isList_any _ _ _ (w.drewN n1) hB hm2).mono ?_
      rintro e w1 ⟨rfl, n2, rfl⟩
      rw [hy]
      go_wp2_with fail
      refine (slope_any _ _ _ _ _ _ (w.drewN (n1 + n2)) hA hB hn hl1 hl2).mono ?_
      rintro e w1 ⟨s, b, ee, n3, rfl, e1, e2, e3, rfl⟩
      go_wp2_with (go_at_call 52; refine (isFinite_any _ _).mono ?_; rintro e w' ⟨rfl, n', rfl⟩)
      all_goals go_ret3
      all_goals exact ⟨_, _, _, rfl, rfl, rfl, rfl⟩
    · cases hb : finB (slB (cl xs) (cl ys))
      · have hok : slOk (cl xs) (cl ys) = false := by unfold slOk; rw [hz, hs, hb]; rfl
        rw [hok]
        clear hok
        have hz1 : (ford .f32 (slE (cl xs)) (cn .f32 0) == some .eq) = false := hz
        clear hz
        go_enter Try.func34, Try.ntmps34
        go_wp2_with fail
        refine (isList_any _ _ _ _ hA hm1).mono ?_
        rintro e w1 ⟨rfl, n1, rfl⟩
        rw [hx]
        go_wp2_with fail
        refine (isList_any _ _ _ (w.drewN n1) hB hm2).mono ?_
        rintro e w1 ⟨rfl, n2, rfl⟩
        rw [hy]
        go_wp2_with fail
        refine (slope_any _ _ _ _ _ _ (w.drewN (n1 + n2)) hA hB hn hl1 hl2).mono ?_
        rintro e w1 ⟨s, b, ee, n3, rfl, e1, e2, e3, rfl⟩
        go_wp2_with (go_at_call 52; refine (isFinite_any _ _).mono ?_; rintro e w' ⟨rfl, n', rfl⟩)
        all_goals go_ret3
        all_goals exact ⟨_, _, _, rfl, rfl, rfl, rfl⟩
      · have hok : slOk (cl xs) (cl ys) = true := by unfold slOk; rw [hz, hs, hb]; rfl
        rw [hok]
        clear hok
        have hz1 : (ford .f32 (slE (cl xs)) (cn .f32 0) == some .eq) = false := hz
        clear hz
        go_enter Try.func34, Try.ntmps34
        go_wp2_with fail
        refine (isList_any _ _ _ _ hA hm1).mono ?_
        rintro e w1 ⟨rfl, n1, rfl⟩
        rw [hx]
        go_wp2_with fail
        refine (isList_any _ _ _ (w.drewN n1) hB hm2).mono ?_
        rintro e w1 ⟨rfl, n2, rfl⟩
        rw [hy]
        go_wp2_with fail
        refine (slope_any _ _ _ _ _ _ (w.drewN (n1 + n2)) hA hB hn hl1 hl2).mono ?_
        rintro e w1 ⟨s, b, ee, n3, rfl, e1, e2, e3, rfl⟩
        go_wp2_with (go_at_call 52; refine (isFinite_any _ _).mono ?_; rintro e w' ⟨rfl, n', rfl⟩)
        all_goals go_ret3
        all_goals exact ⟨_, _, _, rfl, e1, e2, rfl⟩
  · have hok : slOk (cl xs) (cl ys) = false := by unfold slOk; rw [hz]; rfl
    rw [hok]
    clear hok
    have hz1 : (ford .f32 (slE (cl xs)) (cn .f32 0) == some .eq) = true := hz
    clear hz
    go_enter Try.func34, Try.ntmps34
    go_wp2_with fail
    refine (isList_any _ _ _ _ hA hm1).mono ?_
    rintro e w1 ⟨rfl, n1, rfl⟩
    rw [hx]
    go_wp2_with fail
    refine (isList_any _ _ _ (w.drewN n1) hB hm2).mono ?_
    rintro e w1 ⟨rfl, n2, rfl⟩
    rw [hy]
    go_wp2_with fail
    refine (slope_any _ _ _ _ _ _ (w.drewN (n1 + n2)) hA hB hn hl1 hl2).mono ?_
    rintro e w1 ⟨s, b, ee, n3, rfl, e1, e2, e3, rfl⟩
    go_wp2_with (go_at_call 52; refine (isFinite_any _ _).mono ?_; rintro e w' ⟨rfl, n', rfl⟩)
    all_goals go_ret3
    all_goals exact ⟨_, _, _, rfl, rfl, rfl, rfl⟩
end Go.Proofs.Ytcdademaamoboaa
