/- DiamondSheet where a condition fails: both sides. -/
import Derived.Test.YtenepnbickpcjaaDiaS
namespace Go.Proofs.Ytenepnbickpcjaa
open Go.RowKit

set_option maxRecDepth 100000 in
set_option maxHeartbeats 4000000 in
theorem implD_no (p : Int) (A : Option Addr) (c : Nat) (xs : List Nat) (rf fd : Nat) (sd : Int) (w : World) (hA : FRd w A xs) (_hn : xs.length ≤ maxLen) (h : diaG p (cl xs) (cn .f32 rf) (cn .f32 fd) sd = false) :
    Calls Try.prog 39 #[.int .i64 p, .slice A xs.length c, .float .f32 rf, .float .f32 fd, .int .i64 sd] w (DiaR w p (cl xs) (cn .f32 rf) (cn .f32 fd) sd) := by
  have HD := Lib.hid (dia_noG h)
  have HG := Lib.hid h
  clear h
  by_cases hp : 1 ≤ p ∧ p ≤ 4
  rotate_left
  · clear HG
    obtain ⟨w0, hw0⟩ : ∃ w0, w0 = w.alloc (.cells #[.int .i64 0, .int .i64 0, .slice none 0 0] 33) := ⟨_, rfl⟩
    have k0 : Below w.heap.size w w0 := by rw [hw0]; exact below_alloc _ _
    obtain ⟨r_, r0, r1, r2⟩ : BoxS w0 w.heap.size 0 0 none 0 0 := by rw [hw0]; exact boxS_new _ _ _ _ _ _ _ _ rfl
    have q0 : w0.frozen? ⟨w.heap.size, 0, none⟩ = false := by rw [hw0]; simp
    have q1 : w0.frozen? ⟨w.heap.size, 1, none⟩ = false := by rw [hw0]; simp
    have q2 : w0.frozen? ⟨w.heap.size, 2, none⟩ = false := by rw [hw0]; simp
    have hA1 : FRd w0 A xs := Rd.below hA k0
    go_enter Try.func39, Try.ntmps39
    go_wp2_with fail
    rw [← hw0]
    clear hw0
    refine (within_no _ _ _ _ hp).mono ?_
    rintro e w1 ⟨rfl, rfl⟩
    go_wp2
    refine bodyPost_ret (v := .tuple #[shv 0 0 none 0 0, .int .i64 0, .bool false]) (by simp [results, Try.results39, go_sem, r0, r1, r2]) rfl ?_
    first | exact dia_no HD.out (below_put3 k0 (Nat.le_refl _)) | exact dia_no HD.out (below_put3 (below_drewN k0 _) (Nat.le_refl _))
  by_cases hl : xs.length = 4
  rotate_left
  · clear HG
    have hne : ((xs.length : Int) == 4) = false := by simp; omega
    have hnf : ¬ (xs.length : Int) = 4 := by omega
    obtain ⟨w0, hw0⟩ : ∃ w0, w0 = w.alloc (.cells #[.int .i64 0, .int .i64 0, .slice none 0 0] 33) := ⟨_, rfl⟩
    have k0 : Below w.heap.size w w0 := by rw [hw0]; exact below_alloc _ _
    obtain ⟨r_, r0, r1, r2⟩ : BoxS w0 w.heap.size 0 0 none 0 0 := by rw [hw0]; exact boxS_new _ _ _ _ _ _ _ _ rfl
    have q0 : w0.frozen? ⟨w.heap.size, 0, none⟩ = false := by rw [hw0]; simp
    have q1 : w0.frozen? ⟨w.heap.size, 1, none⟩ = false := by rw [hw0]; simp
    have q2 : w0.frozen? ⟨w.heap.size, 2, none⟩ = false := by rw [hw0]; simp
    have hA1 : FRd w0 A xs := Rd.below hA k0
    go_enter Try.func39, Try.ntmps39
    go_wp2_with fail
    rw [← hw0]
    clear hw0
    refine (within_yes _ _ _ _ hp.1 hp.2).mono ?_
    rintro e w1 ⟨rfl, rfl⟩
    go_wp2_with fail
    go_wp2
    refine bodyPost_ret (v := .tuple #[shv 0 0 none 0 0, .int .i64 0, .bool false]) (by simp [results, Try.results39, go_sem, r0, r1, r2]) rfl ?_
    first | exact dia_no HD.out (below_put3 k0 (Nat.le_refl _)) | exact dia_no HD.out (below_put3 (below_drewN k0 _) (Nat.le_refl _))
  cases hf : finL xs
  · clear HG
    rw [hl]
    obtain ⟨w0, hw0⟩ : ∃ w0, w0 = w.alloc (.cells #[.int .i64 0, .int .i64 0, .slice none 0 0] 33) := ⟨_, rfl⟩
    have k0 : Below w.heap.size w w0 := by rw [hw0]; exact below_alloc _ _
    obtain ⟨r_, r0, r1, r2⟩ : BoxS w0 w.heap.size 0 0 none 0 0 := by rw [hw0]; exact boxS_new _ _ _ _ _ _ _ _ rfl
    have q0 : w0.frozen? ⟨w.heap.size, 0, none⟩ = false := by rw [hw0]; simp
    have q1 : w0.frozen? ⟨w.heap.size, 1, none⟩ = false := by rw [hw0]; simp
    have q2 : w0.frozen? ⟨w.heap.size, 2, none⟩ = false := by rw [hw0]; simp
    have hA1 : FRd w0 A xs := Rd.below hA k0
    go_enter Try.func39, Try.ntmps39
    go_wp2_with fail
    rw [← hw0]
    clear hw0
    refine (within_yes _ _ _ _ hp.1 hp.2).mono ?_
    rintro e w1 ⟨rfl, rfl⟩
    go_wp2_with fail
    have AF := areFinite_any A c xs w0 hA1 (by rw [hl]; decide)
    rw [hl, hf] at AF
    refine AF.mono ?_
    rintro e w1 ⟨rfl, n1, rfl⟩
    clear AF
    go_wp2
    refine bodyPost_ret (v := .tuple #[shv 0 0 none 0 0, .int .i64 0, .bool false]) (by simp [results, Try.results39, go_sem, r0, r1, r2]) rfl ?_
    first | exact dia_no HD.out (below_put3 k0 (Nat.le_refl _)) | exact dia_no HD.out (below_put3 (below_drewN k0 _) (Nat.le_refl _))
  cases hr : finB (cn .f32 rf)
  · clear HG
    rw [hl]
    obtain ⟨w0, hw0⟩ : ∃ w0, w0 = w.alloc (.cells #[.int .i64 0, .int .i64 0, .slice none 0 0] 33) := ⟨_, rfl⟩
    have k0 : Below w.heap.size w w0 := by rw [hw0]; exact below_alloc _ _
    obtain ⟨r_, r0, r1, r2⟩ : BoxS w0 w.heap.size 0 0 none 0 0 := by rw [hw0]; exact boxS_new _ _ _ _ _ _ _ _ rfl
    have q0 : w0.frozen? ⟨w.heap.size, 0, none⟩ = false := by rw [hw0]; simp
    have q1 : w0.frozen? ⟨w.heap.size, 1, none⟩ = false := by rw [hw0]; simp
    have q2 : w0.frozen? ⟨w.heap.size, 2, none⟩ = false := by rw [hw0]; simp
    have hA1 : FRd w0 A xs := Rd.below hA k0
    go_enter Try.func39, Try.ntmps39
    go_wp2_with fail
    rw [← hw0]
    clear hw0
    refine (within_yes _ _ _ _ hp.1 hp.2).mono ?_
    rintro e w1 ⟨rfl, rfl⟩
    go_wp2_with fail
    have AF := areFinite_any A c xs w0 hA1 (by rw [hl]; decide)
    rw [hl, hf] at AF
    refine AF.mono ?_
    rintro e w1 ⟨rfl, n1, rfl⟩
    clear AF
    go_wp2_with fail
    refine (isFinite_any rf _).mono ?_
    rintro e w2 ⟨rfl, n2, rfl⟩
    rw [hr]
    go_wp2
    refine bodyPost_ret (v := .tuple #[shv 0 0 none 0 0, .int .i64 0, .bool false]) (by simp [results, Try.results39, go_sem, r0, r1, r2]) rfl ?_
    first | exact dia_no HD.out (below_put3 k0 (Nat.le_refl _)) | exact dia_no HD.out (below_put3 (below_drewN k0 _) (Nat.le_refl _))
  cases hg : geB .f32 (cn .f32 rf) (cn .f32 0)
  · clear HG
    rw [hl]
    have hg' := hg
    unfold geB at hg'
    obtain ⟨w0, hw0⟩ : ∃ w0, w0 = w.alloc (.cells #[.int .i64 0, .int .i64 0, .slice none 0 0] 33) := ⟨_, rfl⟩
    have k0 : Below w.heap.size w w0 := by rw [hw0]; exact below_alloc _ _
    obtain ⟨r_, r0, r1, r2⟩ : BoxS w0 w.heap.size 0 0 none 0 0 := by rw [hw0]; exact boxS_new _ _ _ _ _ _ _ _ rfl
    have q0 : w0.frozen? ⟨w.heap.size, 0, none⟩ = false := by rw [hw0]; simp
    have q1 : w0.frozen? ⟨w.heap.size, 1, none⟩ = false := by rw [hw0]; simp
    have q2 : w0.frozen? ⟨w.heap.size, 2, none⟩ = false := by rw [hw0]; simp
    have hA1 : FRd w0 A xs := Rd.below hA k0
    go_enter Try.func39, Try.ntmps39
    go_wp2_with fail
    rw [← hw0]
    clear hw0
    refine (within_yes _ _ _ _ hp.1 hp.2).mono ?_
    rintro e w1 ⟨rfl, rfl⟩
    go_wp2_with fail
    have AF := areFinite_any A c xs w0 hA1 (by rw [hl]; decide)
    rw [hl, hf] at AF
    refine AF.mono ?_
    rintro e w1 ⟨rfl, n1, rfl⟩
    clear AF
    go_wp2_with fail
    refine (isFinite_any rf _).mono ?_
    rintro e w2 ⟨rfl, n2, rfl⟩
    rw [hr]
    go_wp2_with fail
    go_wp2
    refine bodyPost_ret (v := .tuple #[shv 0 0 none 0 0, .int .i64 0, .bool false]) (by simp [results, Try.results39, go_sem, r0, r1, r2]) rfl ?_
    first | exact dia_no HD.out (below_put3 k0 (Nat.le_refl _)) | exact dia_no HD.out (below_put3 (below_drewN k0 _) (Nat.le_refl _))
  cases hs : shareB (cn .f32 fd)
  · clear HG
    rw [hl]
    have hg' := hg
    unfold geB at hg'
    obtain ⟨w0, hw0⟩ : ∃ w0, w0 = w.alloc (.cells #[.int .i64 0, .int .i64 0, .slice none 0 0] 33) := ⟨_, rfl⟩
    have k0 : Below w.heap.size w w0 := by rw [hw0]; exact below_alloc _ _
    obtain ⟨r_, r0, r1, r2⟩ : BoxS w0 w.heap.size 0 0 none 0 0 := by rw [hw0]; exact boxS_new _ _ _ _ _ _ _ _ rfl
    have q0 : w0.frozen? ⟨w.heap.size, 0, none⟩ = false := by rw [hw0]; simp
    have q1 : w0.frozen? ⟨w.heap.size, 1, none⟩ = false := by rw [hw0]; simp
    have q2 : w0.frozen? ⟨w.heap.size, 2, none⟩ = false := by rw [hw0]; simp
    have hA1 : FRd w0 A xs := Rd.below hA k0
    go_enter Try.func39, Try.ntmps39
    go_wp2_with fail
    rw [← hw0]
    clear hw0
    refine (within_yes _ _ _ _ hp.1 hp.2).mono ?_
    rintro e w1 ⟨rfl, rfl⟩
    go_wp2_with fail
    have AF := areFinite_any A c xs w0 hA1 (by rw [hl]; decide)
    rw [hl, hf] at AF
    refine AF.mono ?_
    rintro e w1 ⟨rfl, n1, rfl⟩
    clear AF
    go_wp2_with fail
    refine (isFinite_any rf _).mono ?_
    rintro e w2 ⟨rfl, n2, rfl⟩
    rw [hr]
    go_wp2_with fail
    refine (isShare_any fd _).mono ?_
    rintro e w2 ⟨rfl, rfl⟩
    rw [hs]
    go_wp2
    refine bodyPost_ret (v := .tuple #[shv 0 0 none 0 0, .int .i64 0, .bool false]) (by simp [results, Try.results39, go_sem, r0, r1, r2]) rfl ?_
    first | exact dia_no HD.out (below_put3 k0 (Nat.le_refl _)) | exact dia_no HD.out (below_put3 (below_drewN k0 _) (Nat.le_refl _))
  by_cases h0 : 0 ≤ sd ∧ sd ≤ 2147483647
  · exact absurd (HG.out.symm.trans (dia_guard hp hl hf hr hg hs h0)) (by decide)
  clear HG
  rw [hl]
  have hg' := hg
  unfold geB at hg'
  obtain ⟨w0, hw0⟩ : ∃ w0, w0 = w.alloc (.cells #[.int .i64 0, .int .i64 0, .slice none 0 0] 33) := ⟨_, rfl⟩
  have k0 : Below w.heap.size w w0 := by rw [hw0]; exact below_alloc _ _
  obtain ⟨r_, r0, r1, r2⟩ : BoxS w0 w.heap.size 0 0 none 0 0 := by rw [hw0]; exact boxS_new _ _ _ _ _ _ _ _ rfl
  have q0 : w0.frozen? ⟨w.heap.size, 0, none⟩ = false := by rw [hw0]; simp
  have q1 : w0.frozen? ⟨w.heap.size, 1, none⟩ = false := by rw [hw0]; simp
  have q2 : w0.frozen? ⟨w.heap.size, 2, none⟩ = false := by rw [hw0]; simp
  have hA1 : FRd w0 A xs := Rd.below hA k0
  go_enter Try.func39, Try.ntmps39
  go_wp2_with fail
  rw [← hw0]
  clear hw0
  refine (within_yes _ _ _ _ hp.1 hp.2).mono ?_
  rintro e w1 ⟨rfl, rfl⟩
  go_wp2_with fail
  have AF := areFinite_any A c xs w0 hA1 (by rw [hl]; decide)
  rw [hl, hf] at AF
  refine AF.mono ?_
  rintro e w1 ⟨rfl, n1, rfl⟩
  clear AF
  go_wp2_with fail
  refine (isFinite_any rf _).mono ?_
  rintro e w2 ⟨rfl, n2, rfl⟩
  rw [hr]
  go_wp2_with fail
  refine (isShare_any fd _).mono ?_
  rintro e w2 ⟨rfl, rfl⟩
  rw [hs]
  go_wp2_with fail
  refine (isSeed_any sd _).mono ?_
  rintro e w2 ⟨rfl, rfl⟩
  rw [show (decide (0 ≤ sd) && decide (sd ≤ 2147483647)) = false by simp; omega]
  go_wp2
  refine bodyPost_ret (v := .tuple #[shv 0 0 none 0 0, .int .i64 0, .bool false]) (by simp [results, Try.results39, go_sem, r0, r1, r2]) rfl ?_
  first | exact dia_no HD.out (below_put3 k0 (Nat.le_refl _)) | exact dia_no HD.out (below_put3 (below_drewN k0 _) (Nat.le_refl _))
set_option maxRecDepth 100000 in
set_option maxHeartbeats 4000000 in
theorem specD_no (p : Int) (A : Option Addr) (c : Nat) (xs : List Nat) (rf fd : Nat) (sd : Int) (w : World) (hA : FRd w A xs) (_hn : xs.length ≤ maxLen) (h : diaG p (cl xs) (cn .f32 rf) (cn .f32 fd) sd = false) :
    Calls Try.prog 37 #[.int .i64 p, .slice A xs.length c, .float .f32 rf, .float .f32 fd, .int .i64 sd] w (DiaR w p (cl xs) (cn .f32 rf) (cn .f32 fd) sd) := by
  have HD := Lib.hid (dia_noG h)
  have HG := Lib.hid h
  clear h
  by_cases hp : 1 ≤ p ∧ p ≤ 4
  rotate_left
  · clear HG
    obtain ⟨w0, hw0⟩ : ∃ w0, w0 = w.alloc (.cells #[.int .i64 0, .int .i64 0, .slice none 0 0] 33) := ⟨_, rfl⟩
    have k0 : Below w.heap.size w w0 := by rw [hw0]; exact below_alloc _ _
    obtain ⟨r_, r0, r1, r2⟩ : BoxS w0 w.heap.size 0 0 none 0 0 := by rw [hw0]; exact boxS_new _ _ _ _ _ _ _ _ rfl
    have q0 : w0.frozen? ⟨w.heap.size, 0, none⟩ = false := by rw [hw0]; simp
    have q1 : w0.frozen? ⟨w.heap.size, 1, none⟩ = false := by rw [hw0]; simp
    have q2 : w0.frozen? ⟨w.heap.size, 2, none⟩ = false := by rw [hw0]; simp
    have hA1 : FRd w0 A xs := Rd.below hA k0
    go_enter Try.func37, Try.ntmps37
    go_wp2_with fail
    rw [← hw0]
    clear hw0
    refine (in_any _ _ _ _).mono ?_
    rintro e w1 ⟨rfl, rfl⟩
    rw [show (decide (1 ≤ p) && decide (p ≤ 4)) = false by simp; omega]
    go_wp2
    refine bodyPost_ret (v := .tuple #[shv 0 0 none 0 0, .int .i64 0, .bool false]) (by simp [results, Try.results37, go_sem, r0, r1, r2]) rfl ?_
    first | exact dia_no HD.out (below_put3 k0 (Nat.le_refl _)) | exact dia_no HD.out (below_put3 (below_drewN k0 _) (Nat.le_refl _))
  by_cases hl : xs.length = 4
  rotate_left
  · clear HG
    have hne : ((xs.length : Int) == 4) = false := by simp; omega
    have hnf : ¬ (xs.length : Int) = 4 := by omega
    obtain ⟨w0, hw0⟩ : ∃ w0, w0 = w.alloc (.cells #[.int .i64 0, .int .i64 0, .slice none 0 0] 33) := ⟨_, rfl⟩
    have k0 : Below w.heap.size w w0 := by rw [hw0]; exact below_alloc _ _
    obtain ⟨r_, r0, r1, r2⟩ : BoxS w0 w.heap.size 0 0 none 0 0 := by rw [hw0]; exact boxS_new _ _ _ _ _ _ _ _ rfl
    have q0 : w0.frozen? ⟨w.heap.size, 0, none⟩ = false := by rw [hw0]; simp
    have q1 : w0.frozen? ⟨w.heap.size, 1, none⟩ = false := by rw [hw0]; simp
    have q2 : w0.frozen? ⟨w.heap.size, 2, none⟩ = false := by rw [hw0]; simp
    have hA1 : FRd w0 A xs := Rd.below hA k0
    go_enter Try.func37, Try.ntmps37
    go_wp2_with fail
    rw [← hw0]
    clear hw0
    refine (in_any _ _ _ _).mono ?_
    rintro e w1 ⟨rfl, rfl⟩
    rw [decide_eq_true hp.1, decide_eq_true hp.2]
    go_wp2_with fail
    go_wp2
    refine bodyPost_ret (v := .tuple #[shv 0 0 none 0 0, .int .i64 0, .bool false]) (by simp [results, Try.results37, go_sem, r0, r1, r2]) rfl ?_
    first | exact dia_no HD.out (below_put3 k0 (Nat.le_refl _)) | exact dia_no HD.out (below_put3 (below_drewN k0 _) (Nat.le_refl _))
  cases hf : finL xs
  · clear HG
    rw [hl]
    obtain ⟨w0, hw0⟩ : ∃ w0, w0 = w.alloc (.cells #[.int .i64 0, .int .i64 0, .slice none 0 0] 33) := ⟨_, rfl⟩
    have k0 : Below w.heap.size w w0 := by rw [hw0]; exact below_alloc _ _
    obtain ⟨r_, r0, r1, r2⟩ : BoxS w0 w.heap.size 0 0 none 0 0 := by rw [hw0]; exact boxS_new _ _ _ _ _ _ _ _ rfl
    have q0 : w0.frozen? ⟨w.heap.size, 0, none⟩ = false := by rw [hw0]; simp
    have q1 : w0.frozen? ⟨w.heap.size, 1, none⟩ = false := by rw [hw0]; simp
    have q2 : w0.frozen? ⟨w.heap.size, 2, none⟩ = false := by rw [hw0]; simp
    have hA1 : FRd w0 A xs := Rd.below hA k0
    go_enter Try.func37, Try.ntmps37
    go_wp2_with fail
    rw [← hw0]
    clear hw0
    refine (in_any _ _ _ _).mono ?_
    rintro e w1 ⟨rfl, rfl⟩
    rw [decide_eq_true hp.1, decide_eq_true hp.2]
    go_wp2_with fail
    have AF := l02Finite_any A c xs w0 hA1 (by rw [hl]; decide)
    rw [hl, hf] at AF
    refine AF.mono ?_
    rintro e w1 ⟨rfl, n1, rfl⟩
    clear AF
    go_wp2
    refine bodyPost_ret (v := .tuple #[shv 0 0 none 0 0, .int .i64 0, .bool false]) (by simp [results, Try.results37, go_sem, r0, r1, r2]) rfl ?_
    first | exact dia_no HD.out (below_put3 k0 (Nat.le_refl _)) | exact dia_no HD.out (below_put3 (below_drewN k0 _) (Nat.le_refl _))
  cases hr : finB (cn .f32 rf)
  · clear HG
    rw [hl]
    obtain ⟨w0, hw0⟩ : ∃ w0, w0 = w.alloc (.cells #[.int .i64 0, .int .i64 0, .slice none 0 0] 33) := ⟨_, rfl⟩
    have k0 : Below w.heap.size w w0 := by rw [hw0]; exact below_alloc _ _
    obtain ⟨r_, r0, r1, r2⟩ : BoxS w0 w.heap.size 0 0 none 0 0 := by rw [hw0]; exact boxS_new _ _ _ _ _ _ _ _ rfl
    have q0 : w0.frozen? ⟨w.heap.size, 0, none⟩ = false := by rw [hw0]; simp
    have q1 : w0.frozen? ⟨w.heap.size, 1, none⟩ = false := by rw [hw0]; simp
    have q2 : w0.frozen? ⟨w.heap.size, 2, none⟩ = false := by rw [hw0]; simp
    have hA1 : FRd w0 A xs := Rd.below hA k0
    go_enter Try.func37, Try.ntmps37
    go_wp2_with fail
    rw [← hw0]
    clear hw0
    refine (in_any _ _ _ _).mono ?_
    rintro e w1 ⟨rfl, rfl⟩
    rw [decide_eq_true hp.1, decide_eq_true hp.2]
    go_wp2_with fail
    have AF := l02Finite_any A c xs w0 hA1 (by rw [hl]; decide)
    rw [hl, hf] at AF
    refine AF.mono ?_
    rintro e w1 ⟨rfl, n1, rfl⟩
    clear AF
    go_wp2_with fail
    refine (least_any rf _).mono ?_
    rintro e w2 ⟨rfl, n2, rfl⟩
    rw [hr, Bool.false_and]
    go_wp2
    refine bodyPost_ret (v := .tuple #[shv 0 0 none 0 0, .int .i64 0, .bool false]) (by simp [results, Try.results37, go_sem, r0, r1, r2]) rfl ?_
    first | exact dia_no HD.out (below_put3 k0 (Nat.le_refl _)) | exact dia_no HD.out (below_put3 (below_drewN k0 _) (Nat.le_refl _))
  cases hg : geB .f32 (cn .f32 rf) (cn .f32 0)
  · clear HG
    rw [hl]
    have hg' := hg
    unfold geB at hg'
    obtain ⟨w0, hw0⟩ : ∃ w0, w0 = w.alloc (.cells #[.int .i64 0, .int .i64 0, .slice none 0 0] 33) := ⟨_, rfl⟩
    have k0 : Below w.heap.size w w0 := by rw [hw0]; exact below_alloc _ _
    obtain ⟨r_, r0, r1, r2⟩ : BoxS w0 w.heap.size 0 0 none 0 0 := by rw [hw0]; exact boxS_new _ _ _ _ _ _ _ _ rfl
    have q0 : w0.frozen? ⟨w.heap.size, 0, none⟩ = false := by rw [hw0]; simp
    have q1 : w0.frozen? ⟨w.heap.size, 1, none⟩ = false := by rw [hw0]; simp
    have q2 : w0.frozen? ⟨w.heap.size, 2, none⟩ = false := by rw [hw0]; simp
    have hA1 : FRd w0 A xs := Rd.below hA k0
    go_enter Try.func37, Try.ntmps37
    go_wp2_with fail
    rw [← hw0]
    clear hw0
    refine (in_any _ _ _ _).mono ?_
    rintro e w1 ⟨rfl, rfl⟩
    rw [decide_eq_true hp.1, decide_eq_true hp.2]
    go_wp2_with fail
    have AF := l02Finite_any A c xs w0 hA1 (by rw [hl]; decide)
    rw [hl, hf] at AF
    refine AF.mono ?_
    rintro e w1 ⟨rfl, n1, rfl⟩
    clear AF
    go_wp2_with fail
    refine (least_any rf _).mono ?_
    rintro e w2 ⟨rfl, n2, rfl⟩
    rw [hr, hg]
    go_wp2
    refine bodyPost_ret (v := .tuple #[shv 0 0 none 0 0, .int .i64 0, .bool false]) (by simp [results, Try.results37, go_sem, r0, r1, r2]) rfl ?_
    first | exact dia_no HD.out (below_put3 k0 (Nat.le_refl _)) | exact dia_no HD.out (below_put3 (below_drewN k0 _) (Nat.le_refl _))
  cases hs : shareB (cn .f32 fd)
  · clear HG
    rw [hl]
    have hg' := hg
    unfold geB at hg'
    obtain ⟨w0, hw0⟩ : ∃ w0, w0 = w.alloc (.cells #[.int .i64 0, .int .i64 0, .slice none 0 0] 33) := ⟨_, rfl⟩
    have k0 : Below w.heap.size w w0 := by rw [hw0]; exact below_alloc _ _
    obtain ⟨r_, r0, r1, r2⟩ : BoxS w0 w.heap.size 0 0 none 0 0 := by rw [hw0]; exact boxS_new _ _ _ _ _ _ _ _ rfl
    have q0 : w0.frozen? ⟨w.heap.size, 0, none⟩ = false := by rw [hw0]; simp
    have q1 : w0.frozen? ⟨w.heap.size, 1, none⟩ = false := by rw [hw0]; simp
    have q2 : w0.frozen? ⟨w.heap.size, 2, none⟩ = false := by rw [hw0]; simp
    have hA1 : FRd w0 A xs := Rd.below hA k0
    go_enter Try.func37, Try.ntmps37
    go_wp2_with fail
    rw [← hw0]
    clear hw0
    refine (in_any _ _ _ _).mono ?_
    rintro e w1 ⟨rfl, rfl⟩
    rw [decide_eq_true hp.1, decide_eq_true hp.2]
    go_wp2_with fail
    have AF := l02Finite_any A c xs w0 hA1 (by rw [hl]; decide)
    rw [hl, hf] at AF
    refine AF.mono ?_
    rintro e w1 ⟨rfl, n1, rfl⟩
    clear AF
    go_wp2_with fail
    refine (least_any rf _).mono ?_
    rintro e w2 ⟨rfl, n2, rfl⟩
    rw [hr, hg]
    go_wp2_with fail
    refine (share_any fd _).mono ?_
    rintro e w2 ⟨rfl, rfl⟩
    rw [hs]
    go_wp2
    refine bodyPost_ret (v := .tuple #[shv 0 0 none 0 0, .int .i64 0, .bool false]) (by simp [results, Try.results37, go_sem, r0, r1, r2]) rfl ?_
    first | exact dia_no HD.out (below_put3 k0 (Nat.le_refl _)) | exact dia_no HD.out (below_put3 (below_drewN k0 _) (Nat.le_refl _))
  by_cases h0 : 0 ≤ sd ∧ sd ≤ 2147483647
  · exact absurd (HG.out.symm.trans (dia_guard hp hl hf hr hg hs h0)) (by decide)
  clear HG
  rw [hl]
  have hg' := hg
  unfold geB at hg'
  obtain ⟨w0, hw0⟩ : ∃ w0, w0 = w.alloc (.cells #[.int .i64 0, .int .i64 0, .slice none 0 0] 33) := ⟨_, rfl⟩
  have k0 : Below w.heap.size w w0 := by rw [hw0]; exact below_alloc _ _
  obtain ⟨r_, r0, r1, r2⟩ : BoxS w0 w.heap.size 0 0 none 0 0 := by rw [hw0]; exact boxS_new _ _ _ _ _ _ _ _ rfl
  have q0 : w0.frozen? ⟨w.heap.size, 0, none⟩ = false := by rw [hw0]; simp
  have q1 : w0.frozen? ⟨w.heap.size, 1, none⟩ = false := by rw [hw0]; simp
  have q2 : w0.frozen? ⟨w.heap.size, 2, none⟩ = false := by rw [hw0]; simp
  have hA1 : FRd w0 A xs := Rd.below hA k0
  go_enter Try.func37, Try.ntmps37
  go_wp2_with fail
  rw [← hw0]
  clear hw0
  refine (in_any _ _ _ _).mono ?_
  rintro e w1 ⟨rfl, rfl⟩
  rw [decide_eq_true hp.1, decide_eq_true hp.2]
  go_wp2_with fail
  have AF := l02Finite_any A c xs w0 hA1 (by rw [hl]; decide)
  rw [hl, hf] at AF
  refine AF.mono ?_
  rintro e w1 ⟨rfl, n1, rfl⟩
  clear AF
  go_wp2_with fail
  refine (least_any rf _).mono ?_
  rintro e w2 ⟨rfl, n2, rfl⟩
  rw [hr, hg]
  go_wp2_with fail
  refine (share_any fd _).mono ?_
  rintro e w2 ⟨rfl, rfl⟩
  rw [hs]
  go_wp2_with fail
  refine (l05Seed_any sd _).mono ?_
  rintro e w2 ⟨rfl, rfl⟩
  rw [show (decide (0 ≤ sd) && decide (sd ≤ 2147483647)) = false by simp; omega]
  go_wp2
  refine bodyPost_ret (v := .tuple #[shv 0 0 none 0 0, .int .i64 0, .bool false]) (by simp [results, Try.results37, go_sem, r0, r1, r2]) rfl ?_
  first | exact dia_no HD.out (below_put3 k0 (Nat.le_refl _)) | exact dia_no HD.out (below_put3 (below_drewN k0 _) (Nat.le_refl _))
theorem diaG_out {p : Int} {xs : List Nat} {rf fd : Nat} {sd : Int} (h : diaG p (cl xs) (cn .f32 rf) (cn .f32 fd) sd = true) : (1 ≤ p ∧ p ≤ 4) ∧ xs.length = 4 ∧ finL xs = true ∧ finB (cn .f32 rf) = true ∧ geB .f32 (cn .f32 rf) (cn .f32 0) = true ∧ shareB (cn .f32 fd) = true ∧ (0 ≤ sd ∧ sd ≤ 2147483647) := by
  unfold diaG at h
  rw [cl_len] at h
  simp only [Bool.and_eq_true, decide_eq_true_eq] at h
  obtain ⟨h1, h2, h3, h4, h5, h6, h7⟩ := h
  refine ⟨h1, h2, ?_, h4, h5, h6, h7⟩
  rw [← h3]; unfold cl finL; rw [List.all_map]; rfl
theorem implD_any (p : Int) (A : Option Addr) (c : Nat) (xs : List Nat) (rf fd : Nat) (sd : Int) (w : World) (hA : FRd w A xs) (hn : xs.length ≤ maxLen) :
    Calls Try.prog 39 #[.int .i64 p, .slice A xs.length c, .float .f32 rf, .float .f32 fd, .int .i64 sd] w (DiaR w p (cl xs) (cn .f32 rf) (cn .f32 fd) sd) := by
  cases h : diaG p (cl xs) (cn .f32 rf) (cn .f32 fd) sd
  · exact implD_no p A c xs rf fd sd w hA hn h
  · obtain ⟨hp, hl, hf, hr, hg, hs, h0⟩ := diaG_out h
    have Y := implD_yes p A c xs rf fd sd w hA hp hl hf hr hg hs h0
    rw [← hl] at Y
    exact Y
theorem specD_any (p : Int) (A : Option Addr) (c : Nat) (xs : List Nat) (rf fd : Nat) (sd : Int) (w : World) (hA : FRd w A xs) (hn : xs.length ≤ maxLen) :
    Calls Try.prog 37 #[.int .i64 p, .slice A xs.length c, .float .f32 rf, .float .f32 fd, .int .i64 sd] w (DiaR w p (cl xs) (cn .f32 rf) (cn .f32 fd) sd) := by
  cases h : diaG p (cl xs) (cn .f32 rf) (cn .f32 fd) sd
  · exact specD_no p A c xs rf fd sd w hA hn h
  · obtain ⟨hp, hl, hf, hr, hg, hs, h0⟩ := diaG_out h
    have Y := specD_yes p A c xs rf fd sd w hA hp hl hf hr hg hs h0
    rw [← hl] at Y
    exact Y
end Go.Proofs.Ytenepnbickpcjaa
