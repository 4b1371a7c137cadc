/- StairsAt, both sides, and its law's walk. -/
import Derived.Test.YtcdademaamoboaaSame
namespace Go.Proofs.Ytcdademaamoboaa
open Go.RowKit

def geB (k : FloatKind) (x y : Nat) : Bool := ford k x y == some .gt || ford k x y == some .eq
def leB (k : FloatKind) (x y : Nat) : Bool := ford k x y == some .lt || ford k x y == some .eq
def shareB (x : Nat) : Bool := geB .f32 x (cn .f32 0) && leB .f32 x (cn .f32 1065353216)

theorem share_any (x : Nat) (w : World) : Calls Try.prog 41 #[.float .f32 x] w fun e w' => e = .returned (.bool (shareB (cn .f32 x))) ∧ w = w' := by
  by_cases h : geB .f32 (cn .f32 x) (cn .f32 0) = true
  · have h' := h
    unfold geB at h'
    go_enter Try.func41, Try.ntmps41
    go_wp2
    go_ret
    exact ⟨ret_bool (by first | (simp [shareB, h]; done) | (simp [shareB, h]; rfl)), rfl⟩
  · have h' := h
    unfold geB at h'
    go_enter Try.func41, Try.ntmps41
    go_wp2
    go_ret
    exact ⟨ret_bool (by first | (simp [shareB, h]; done) | (simp [shareB, h]; rfl)), rfl⟩
theorem isShare_any (x : Nat) (w : World) : Calls Try.prog 43 #[.float .f32 x] w fun e w' => e = .returned (.bool (shareB (cn .f32 x))) ∧ w = w' := by
  by_cases h : geB .f32 (cn .f32 x) (cn .f32 0) = true
  · have h' := h
    unfold geB at h'
    go_enter Try.func43, Try.ntmps43
    go_wp2
    go_ret
    exact ⟨ret_bool (by first | (simp [shareB, h]; done) | (simp [shareB, h]; rfl)), rfl⟩
  · have h' := h
    unfold geB at h'
    go_enter Try.func43, Try.ntmps43
    go_wp2
    go_ret
    exact ⟨ret_bool (by first | (simp [shareB, h]; done) | (simp [shareB, h]; rfl)), rfl⟩

/-- One and two: how a number stands to both. -/
theorem one_two (X : Nat) : let one := cn .f32 1065353216; let two := cn .f32 1073741824
    (ford .f32 X one = none ∧ ford .f32 X two = none) ∨ (ford .f32 X one = some .lt ∧ ford .f32 X two = some .lt) ∨ (ford .f32 X one = some .eq ∧ ford .f32 X two = some .lt) ∨
    (ford .f32 X one = some .gt ∧ ford .f32 X two = some .lt) ∨ (ford .f32 X one = some .gt ∧ ford .f32 X two = some .eq) ∨ (ford .f32 X one = some .gt ∧ ford .f32 X two = some .gt) := by
  intro one two
  have n1 : isN .f32 one = false := by decide +kernel
  have n2 : isN .f32 two = false := by decide +kernel
  have hk : fkey .f32 one < fkey .f32 two := by decide +kernel
  cases hX : isN .f32 X
  · simp only [ford_lt, ford_gt, ford_eq, hX, n1, n2, true_and]
    omega
  · exact .inl ⟨ford_nanL _ hX, ford_nanL _ hX⟩

def stX (x : Nat) : Nat := fop .mul .f32 (cn .f32 1077936128) x
def stN : Nat → Nat → Nat → Nat → Nat
  | 0, _, s, _ => s
  | n + 1, x, s, h =>
    if geB .f32 (stX x) (cn .f32 1065353216) then
      if leB .f32 (stX x) (cn .f32 1073741824) then fop .add .f32 s h
      else stN n (fop .sub .f32 (stX x) (cn .f32 1073741824)) (fop .add .f32 s h) (fop .mul .f32 h (cn .f32 1056964608))
    else stN n (stX x) s (fop .mul .f32 h (cn .f32 1056964608))

/-- A number and a yes, whatever was drawn. -/
def NumOk (w : World) (X : Nat) (ok : Bool) (e : Ending) (w' : World) : Prop := ∃ b n, e = .returned (.tuple #[.float .f32 b, .bool ok]) ∧ cn .f32 b = X ∧ w' = w.drewN n

theorem stN_none {n x s h : Nat} (o1 : ford .f32 (stX x) (cn .f32 1065353216) = none) : stN (n + 1) x s h = stN n (stX x) s (fop .mul .f32 h (cn .f32 1056964608)) := by simp [stN, geB, o1]
theorem stN_lt {n x s h : Nat} (o1 : ford .f32 (stX x) (cn .f32 1065353216) = some .lt) : stN (n + 1) x s h = stN n (stX x) s (fop .mul .f32 h (cn .f32 1056964608)) := by simp [stN, geB, o1]
theorem stN_mid {n x s h : Nat} (o1 : geB .f32 (stX x) (cn .f32 1065353216) = true) (o2 : leB .f32 (stX x) (cn .f32 1073741824) = true) : stN (n + 1) x s h = fop .add .f32 s h := by simp [stN, o1, o2]
theorem stN_gt {n x s h : Nat} (o1 : ford .f32 (stX x) (cn .f32 1065353216) = some .gt) (o2 : ford .f32 (stX x) (cn .f32 1073741824) = some .gt) :
    stN (n + 1) x s h = stN n (fop .sub .f32 (stX x) (cn .f32 1073741824)) (fop .add .f32 s h) (fop .mul .f32 h (cn .f32 1056964608)) := by simp [stN, geB, leB, o1, o2]

set_option maxHeartbeats 1000000 in
theorem specLoop (x : Nat) (d : Nat) (hd : d ≤ 32) (w : World) (hs : shareB (cn .f32 x) = true) :
    Calls Try.prog 14 #[.float .f32 x, .int .i64 d] w (NumOk w (stN d (cn .f32 x) (cn .f32 0) (cn .f32 1056964608)) true) := by
  have hd' : decide ((d : Int) ≤ 32) = true := by simp; omega
  go_enter Try.func14, Try.ntmps14
  go_wp2_with (first | (go_at_call 41; refine (share_any _ _).mono ?_; rintro e w' ⟨rfl, rfl⟩) | (go_at_call 42; refine (in_any _ _ _ _).mono ?_; rintro e w' ⟨rfl, rfl⟩))
  go_loopw [0, 6, 7, 8] (fun vx vs vh vk wr => ∃ (k bx bs bh m : Nat), k ≤ d ∧ vk = .int .i64 k ∧ vx = .float .f32 bx ∧ vs = .float .f32 bs ∧ vh = .float .f32 bh ∧ wr = w.drewN m ∧
      Hid (stN (d - k) (cn .f32 bx) (cn .f32 bs) (cn .f32 bh) = stN d (cn .f32 x) (cn .f32 0) (cn .f32 1056964608))) (fun _ _ _ vk _ => d - (intOf vk).toNat)
  case atStart => exact ⟨0, x, 0, 1056964608, 0, Nat.zero_le _, rfl, rfl, rfl, rfl, rfl, Lib.hid rfl⟩
  case round =>
    obtain ⟨k, bx, bs, bh, m, hk, rfl, rfl, rfl, rfl, rfl, HS⟩ := hrel
    by_cases hlt : k < d
    · obtain ⟨j, hj⟩ : ∃ j, d - k = j + 1 := ⟨d - k - 1, by omega⟩
      have HJ := Lib.hid hj
      clear hj
      rcases one_two (stX (cn .f32 bx)) with ⟨o1, o2⟩ | ⟨o1, o2⟩ | ⟨o1, o2⟩ | ⟨o1, o2⟩ | ⟨o1, o2⟩ | ⟨o1, o2⟩
      all_goals
        have q1 := o1
        have q2 := o2
        have Q1 := Lib.hid o1
        have Q2 := Lib.hid o2
        clear o1 o2
        unfold stX at q1 q2
        go_wp2
      · go_roundw
        case rel => exact ⟨k + 1, _, _, _, _, by omega, by go_num, rfl, rfl, rfl, rfl, Lib.hid (by rw [← HS.out, HJ.out, stN_none Q1.out, show d - (k + 1) = j by have := HJ.out; omega]; simp only [cn_fres]; rfl)⟩
        case measure => simp [intOf]; omega
      · go_roundw
        case rel => exact ⟨k + 1, _, _, _, _, by omega, by go_num, rfl, rfl, rfl, rfl, Lib.hid (by rw [← HS.out, HJ.out, stN_lt Q1.out, show d - (k + 1) = j by have := HJ.out; omega]; simp only [cn_fres]; rfl)⟩
        case measure => simp [intOf]; omega
      · go_ret2
        exact ⟨_, _, rfl, by rw [← HS.out, HJ.out, stN_mid (by simp [geB, Q1.out]) (by simp [leB, Q2.out])]; simp only [cn_fres], rfl⟩
      · go_ret2
        exact ⟨_, _, rfl, by rw [← HS.out, HJ.out, stN_mid (by simp [geB, Q1.out]) (by simp [leB, Q2.out])]; simp only [cn_fres], rfl⟩
      · go_ret2
        exact ⟨_, _, rfl, by rw [← HS.out, HJ.out, stN_mid (by simp [geB, Q1.out]) (by simp [leB, Q2.out])]; simp only [cn_fres], rfl⟩
      · go_roundw
        case rel => exact ⟨k + 1, _, _, _, _, by omega, by go_num, rfl, rfl, rfl, rfl, Lib.hid (by rw [← HS.out, HJ.out, stN_gt Q1.out Q2.out, show d - (k + 1) = j by have := HJ.out; omega]; simp only [cn_fres]; rfl)⟩
        case measure => simp [intOf]; omega
    · go_wp2
      go_ret2
      obtain rfl : k = d := by omega
      have hz := HS.out
      rw [Nat.sub_self] at hz
      exact ⟨_, _, rfl, hz, rfl⟩

set_option maxHeartbeats 1000000 in
theorem implLoop (x : Nat) (d : Nat) (hd : d ≤ 32) (w : World) (hs : shareB (cn .f32 x) = true) :
    Calls Try.prog 15 #[.float .f32 x, .int .i64 d] w (NumOk w (stN d (cn .f32 x) (cn .f32 0) (cn .f32 1056964608)) true) := by
  have hd' : decide ((d : Int) ≤ 32) = true := by simp; omega
  go_enter Try.func15, Try.ntmps15
  go_wp2_with (first | (go_at_call 43; refine (isShare_any _ _).mono ?_; rintro e w' ⟨rfl, rfl⟩) | (go_at_call 44; refine (within_any _ _ _ _).mono ?_; rintro e w' ⟨rfl, rfl⟩))
  go_loopw [0, 6, 7, 17] (fun vx vs vh vk wr => ∃ (k bx bs bh m : Nat), k ≤ d ∧ vk = .int .i64 k ∧ vx = .float .f32 bx ∧ vs = .float .f32 bs ∧ vh = .float .f32 bh ∧ wr = w.drewN m ∧
      Hid (stN (d - k) (cn .f32 bx) (cn .f32 bs) (cn .f32 bh) = stN d (cn .f32 x) (cn .f32 0) (cn .f32 1056964608))) (fun _ _ _ vk _ => d - (intOf vk).toNat)
  case atStart => exact ⟨0, x, 0, 1056964608, 0, Nat.zero_le _, rfl, rfl, rfl, rfl, rfl, Lib.hid rfl⟩
  case round =>
    obtain ⟨k, bx, bs, bh, m, hk, rfl, rfl, rfl, rfl, rfl, HS⟩ := hrel
    by_cases hlt : k < d
    · obtain ⟨j, hj⟩ : ∃ j, d - k = j + 1 := ⟨d - k - 1, by omega⟩
      have HJ := Lib.hid hj
      clear hj
      rcases one_two (stX (cn .f32 bx)) with ⟨o1, o2⟩ | ⟨o1, o2⟩ | ⟨o1, o2⟩ | ⟨o1, o2⟩ | ⟨o1, o2⟩ | ⟨o1, o2⟩
      all_goals
        have q1 := o1
        have q2 := o2
        have Q1 := Lib.hid o1
        have Q2 := Lib.hid o2
        clear o1 o2
        unfold stX at q1 q2
        go_wp2
      · go_roundw
        case rel => exact ⟨k + 1, _, _, _, _, by omega, by go_num, rfl, rfl, rfl, rfl, Lib.hid (by rw [← HS.out, HJ.out, stN_none Q1.out, show d - (k + 1) = j by have := HJ.out; omega]; simp only [cn_fres]; rfl)⟩
        case measure => simp [intOf]; omega
      · go_roundw
        case rel => exact ⟨k + 1, _, _, _, _, by omega, by go_num, rfl, rfl, rfl, rfl, Lib.hid (by rw [← HS.out, HJ.out, stN_lt Q1.out, show d - (k + 1) = j by have := HJ.out; omega]; simp only [cn_fres]; rfl)⟩
        case measure => simp [intOf]; omega
      · go_ret2
        exact ⟨_, _, rfl, by rw [← HS.out, HJ.out, stN_mid (by simp [geB, Q1.out]) (by simp [leB, Q2.out])]; simp only [cn_fres], rfl⟩
      · go_ret2
        exact ⟨_, _, rfl, by rw [← HS.out, HJ.out, stN_mid (by simp [geB, Q1.out]) (by simp [leB, Q2.out])]; simp only [cn_fres], rfl⟩
      · go_ret2
        exact ⟨_, _, rfl, by rw [← HS.out, HJ.out, stN_mid (by simp [geB, Q1.out]) (by simp [leB, Q2.out])]; simp only [cn_fres], rfl⟩
      · go_roundw
        case rel => exact ⟨k + 1, _, _, _, _, by omega, by go_num, rfl, rfl, rfl, rfl, Lib.hid (by rw [← HS.out, HJ.out, stN_gt Q1.out Q2.out, show d - (k + 1) = j by have := HJ.out; omega]; simp only [cn_fres]; rfl)⟩
        case measure => simp [intOf]; omega
    · go_wp2
      go_ret2
      obtain rfl : k = d := by omega
      have hz := HS.out
      rw [Nat.sub_self] at hz
      exact ⟨_, _, rfl, hz, rfl⟩

theorem specNo (x : Nat) (d : Int) (w : World) (hs : shareB (cn .f32 x) = false ∨ d < 0 ∨ 32 < d) :
    Calls Try.prog 14 #[.float .f32 x, .int .i64 d] w (NumOk w (cn .f32 0) false) := by
  cases h : shareB (cn .f32 x)
  · clear hs
    go_enter Try.func14, Try.ntmps14
    go_wp2_with (first | (go_at_call 41; refine (share_any _ _).mono ?_; rintro e w' ⟨rfl, rfl⟩) | (go_at_call 42; refine (in_any _ _ _ _).mono ?_; rintro e w' ⟨rfl, rfl⟩))
    go_ret2
    exact ⟨_, 0, rfl, rfl, rfl⟩
  · have hd : (decide (0 ≤ d) && decide (d ≤ 32)) = false := by
      simp only [h, Bool.true_eq_false, false_or] at hs
      simp; omega
    clear hs
    go_enter Try.func14, Try.ntmps14
    go_wp2_with (first | (go_at_call 41; refine (share_any _ _).mono ?_; rintro e w' ⟨rfl, rfl⟩) | (go_at_call 42; refine (in_any _ _ _ _).mono ?_; rintro e w' ⟨rfl, rfl⟩; rw [hd]))
    go_ret2
    exact ⟨_, 0, rfl, rfl, rfl⟩
theorem implNo (x : Nat) (d : Int) (w : World) (hs : shareB (cn .f32 x) = false ∨ d < 0 ∨ 32 < d) :
    Calls Try.prog 15 #[.float .f32 x, .int .i64 d] w (NumOk w (cn .f32 0) false) := by
  cases h : shareB (cn .f32 x)
  · clear hs
    go_enter Try.func15, Try.ntmps15
    go_wp2_with (first | (go_at_call 43; refine (isShare_any _ _).mono ?_; rintro e w' ⟨rfl, rfl⟩) | (go_at_call 44; refine (within_any _ _ _ _).mono ?_; rintro e w' ⟨rfl, rfl⟩))
    go_ret2
    exact ⟨_, 0, rfl, rfl, rfl⟩
  · have hd : (decide (0 ≤ d) && decide (d ≤ 32)) = false := by
      simp only [h, Bool.true_eq_false, false_or] at hs
      simp; omega
    clear hs
    go_enter Try.func15, Try.ntmps15
    go_wp2_with (first | (go_at_call 43; refine (isShare_any _ _).mono ?_; rintro e w' ⟨rfl, rfl⟩) | (go_at_call 44; refine (within_any _ _ _ _).mono ?_; rintro e w' ⟨rfl, rfl⟩; rw [hd]))
    go_ret2
    exact ⟨_, 0, rfl, rfl, rfl⟩

theorem both (x : Nat) (d : Int) : ∃ X ok, ∀ w, Calls Try.prog 14 #[.float .f32 x, .int .i64 d] w (NumOk w X ok) ∧ Calls Try.prog 15 #[.float .f32 x, .int .i64 d] w (NumOk w X ok) := by
  by_cases h : shareB (cn .f32 x) = true ∧ 0 ≤ d ∧ d ≤ 32
  · obtain ⟨hs, h0, h1⟩ := h
    obtain ⟨n, rfl⟩ := Int.eq_ofNat_of_zero_le h0
    exact ⟨_, _, fun w => ⟨specLoop x n (by omega) w hs, implLoop x n (by omega) w hs⟩⟩
  · have h' : shareB (cn .f32 x) = false ∨ d < 0 ∨ 32 < d := by
      cases hs : shareB (cn .f32 x)
      · exact .inl rfl
      · refine .inr ?_
        simp only [hs, true_and] at h
        omega
    exact ⟨_, _, fun w => ⟨specNo x d w h', implNo x d w h'⟩⟩

theorem stairsLaw (x : Nat) (d : Int) (w : World) : Calls Try.prog 3 #[.float .f32 x, .int .i64 d] w fun e w' => e = .returned (.bool true) ∧ Below w.heap.size w w' := by
  obtain ⟨X, ok, hb⟩ := both x d
  have HB := Lib.hid hb
  clear hb
  go_enter Try.func3, Try.ntmps3
  go_wp2_with fail
  refine (HB.out _).1.mono ?_
  rintro e w1 ⟨b, n, rfl, hx, rfl⟩
  have HX := Lib.hid hx
  clear hx
  go_wp2_with fail
  refine (HB.out _).2.mono ?_
  rintro e w1 ⟨b', n', rfl, hx', rfl⟩
  have HX' := Lib.hid hx'
  clear hx'
  go_wp2_with fail
  refine (sameFloat_ok _ _ (by rw [cn_wres, cn_wres, HX.out, HX'.out]) _).mono ?_
  rintro e w1 ⟨rfl, m, rfl⟩
  go_wp2
  go_ret
  exact ⟨rfl, below_drewN (Below.refl _ _) _⟩
end Go.Proofs.Ytcdademaamoboaa
