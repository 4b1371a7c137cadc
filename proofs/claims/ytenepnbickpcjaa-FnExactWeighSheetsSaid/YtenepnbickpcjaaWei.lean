/- WeighSheets, the program's side. -/
import Derived.Test.YtenepnbickpcjaaNormS
import Derived.StillTailTactics
namespace Go.Proofs.Ytenepnbickpcjaa
open Go.RowKit

theorem fin_mul {x y : Nat} (hx : finB (cn .f32 x) = true) (hy : finB (cn .f32 y) = true) : Det .mul .f32 x y 383 :=
  det_mul (fin_cn' hx ▸ fin_small hx) (fin_cn' hy ▸ fin_small hy) (by decide) (by decide)
/-- The weighed sum of two heights. -/
def wgh (X Y a b : Nat) : Nat := fop .add .f32 (fop .mul .f32 X a) (fop .mul .f32 Y b)
def wgL (X Y : Nat) (la lb : List Nat) : List Nat := List.zipWith (wgh X Y) la lb
set_option maxRecDepth 100000 in
set_option maxHeartbeats 1000000 in
theorem wgh1_any (A B : Option Addr) (c d : Nat) (xs ys : List Nat) (i : Nat) (x y : Nat) (px pa py pb : Nat) (w : World) (hA : FRd w A xs) (hB : FRd w B ys) (h1 : i < xs.length) (h2 : i < ys.length) (_hn : xs.length ≤ 289) (_hm : ys.length ≤ 289)
    (fa : finB (cn .f32 xs[i]) = true) (fb : finB (cn .f32 ys[i]) = true) (fx : finB (cn .f32 x) = true) (fy : finB (cn .f32 y) = true)
    (cx : w.cell? ⟨px, 0, none⟩ = some (.float .f32 x)) (ca : w.cell? ⟨pa, 2, none⟩ = some (.slice A xs.length c)) (cy : w.cell? ⟨py, 0, none⟩ = some (.float .f32 y)) (cb : w.cell? ⟨pb, 2, none⟩ = some (.slice B ys.length d)) :
    Calls Try.prog 68 #[.int .i64 i, .pointer (some ⟨px, 0, none⟩), .pointer (some ⟨pa, 0, none⟩), .pointer (some ⟨py, 0, none⟩), .pointer (some ⟨pb, 0, none⟩)] w fun e w' => ∃ r m, e = .returned (.float .f32 r) ∧ cn .f32 r = wgh (cn .f32 x) (cn .f32 y) (cn .f32 xs[i]) (cn .f32 ys[i]) ∧ w' = w.drewN m := by
  obtain ⟨b, o, rfl, hb, hc⟩ := hA.at_ h1
  obtain ⟨b2, o2, rfl, hb2, hc2⟩ := hB.at_ h2
  have hi3 : (i : Int) < xs.length := by omega
  have hi4 : (i : Int) < ys.length := by omega
  generalize xs[i] = va at hc fa
  generalize ys[i] = vb at hc2 fb
  have D1 := fin_mul fx fa
  have D2 := fin_mul fy fb
  have r1 := D1.res
  have d1 := D1.dr
  have r2 := D2.res
  have d2 := D2.dr
  clear D1 D2
  go_enter Try.func68, Try.ntmps68
  go_wp2_with fail
  refine wp_region_still_tail 14 (by kernel_rfl) (by kernel_rfl) ?_
  simp only [List.take_succ_cons, List.take_zero, List.drop_succ_cons, List.drop_zero]
  change wpStill _ _ w.drew (fun a' => wpList _ _ _ _ a' w.drew) _ _
  obtain ⟨wd, hwd⟩ : ∃ wd, wd = w.drewN 1 := ⟨_, rfl⟩
  have ca : wd.cell? ⟨pa, 2, none⟩ = some (.slice (some ⟨b, o, none⟩) xs.length c) := by rw [hwd]; exact ca
  have cb : wd.cell? ⟨pb, 2, none⟩ = some (.slice (some ⟨b2, o2, none⟩) ys.length d) := by rw [hwd]; exact cb
  have hc : wd.cell? ⟨b, o + i, none⟩ = some (.float .f32 va) := by rw [hwd]; exact hc
  have hc2 : wd.cell? ⟨b2, o2 + i, none⟩ = some (.float .f32 vb) := by rw [hwd]; exact hc2
  have cx : wd.cell? ⟨px, 0, none⟩ = some (.float .f32 x) := by rw [hwd]; exact cx
  have cy : wd.cell? ⟨py, 0, none⟩ = some (.float .f32 y) := by rw [hwd]; exact cy
  rw [show w.drew = wd from hwd.symm]
  have HW := Lib.hid hwd
  clear hwd
  have hd0 : wd.drewN 0 = wd := rfl
  repeat still_step
  refine wpStill_nil ?_
  go_wp2
  go_ret
  refine ⟨_, _, rfl, ?_, by rw [HW.out]; exact World.drewN_drewN _ _ _⟩
  rw [cn_fres, cn_fop, cn_fop]
  unfold wgh
  rw [fin_cn' fx, fin_cn' fy, fin_cn' fa, fin_cn' fb]
theorem enter_wgh1 : ∀ args w, (callFunc 68 args).run Try.prog w = .ok (.enter 68 args) w := fun args w => by
  simp only [callFunc]
  have h1 : ¬ (Try.f68.name = "runtime.NumGoroutine") := by decide +kernel
  have h2 : Try.f68.body.isSome = true := by kernel_rfl
  have h3 : ¬ (Try.f68.body = none) := fun h => by rw [h] at h2; cases h2
  simp [h1, h3]
theorem wg_len {X Y : Nat} {la lb : List Nat} (h : lb.length = la.length) : (wgL X Y la lb).length = la.length := by
  unfold wgL
  rw [List.length_zipWith, h, Nat.min_self]
theorem wg_range (X Y : Nat) (xs ys : List Nat) (h : ys.length = xs.length) : (List.range xs.length).map (fun i => wgh X Y ((cl xs).getD i 0) ((cl ys).getD i 0)) = wgL X Y (cl xs) (cl ys) := by
  have hx : (cl xs).length = xs.length := cl_len xs
  have hy : (cl ys).length = xs.length := by rw [cl_len, h]
  apply List.ext_getElem
  · rw [wg_len (by rw [hx, hy]), hx]; simp
  · intro i h1 h2
    have h3 : i < xs.length := by simpa using h1
    have h4 : i < (cl xs).length := by omega
    have h5 : i < (cl ys).length := by omega
    have e : (wgL X Y (cl xs) (cl ys))[i] = wgh X Y (cl xs)[i] (cl ys)[i] := List.getElem_zipWith ..
    rw [e]
    simp [List.getElem?_eq_getElem h4, List.getElem?_eq_getElem h5]
theorem shB_len {sw sh : Int} {xs : List Nat} (h : shB sw sh xs = true) : (xs.length : Int) = sw * sh := by
  unfold shB at h
  simp only [Bool.and_eq_true, decide_eq_true_eq] at h
  exact h.1.2
/-- What WeighSheets gives. -/
def weB (sw sh tw th : Int) (xs ys : List Nat) (x y : Nat) : Bool := shB sw sh xs && (shB tw th ys && (decide (sw = tw) && (decide (sh = th) && (finB (cn .f32 x) && (finB (cn .f32 y) && shC sw sh (wgL (cn .f32 x) (cn .f32 y) (cl xs) (cl ys)))))))
def WeR (w : World) (sw sh tw th : Int) (xs ys : List Nat) (x y : Nat) : Ending → World → Prop := SheetR w (if weB sw sh tw th xs ys x y then sw else 0) (if weB sw sh tw th xs ys x y then sh else 0) (if weB sw sh tw th xs ys x y then wgL (cn .f32 x) (cn .f32 y) (cl xs) (cl ys) else []) (weB sw sh tw th xs ys x y)
theorem we_no {sw sh tw th : Int} {xs ys : List Nat} {x y : Nat} (h : weB sw sh tw th xs ys x y = false) {w w' : World} (k : Below w.heap.size w w') : WeR w sw sh tw th xs ys x y (.returned (.tuple #[shv 0 0 none 0 0, .bool false])) w' := by
  unfold WeR
  rw [h]
  exact sheetR_none k
theorem we_yes {sw sh : Int} {xs ys : List Nat} {x y : Nat} (h1 : shB sw sh xs = true) (h2 : shB sw sh ys = true) (h3 : finB (cn .f32 x) = true) (h4 : finB (cn .f32 y) = true) {w : World} : GiveR w sw sh (wgL (cn .f32 x) (cn .f32 y) (cl xs) (cl ys)) = WeR w sw sh sw sh xs ys x y := by
  have e : weB sw sh sw sh xs ys x y = shC sw sh (wgL (cn .f32 x) (cn .f32 y) (cl xs) (cl ys)) := by
    unfold weB
    rw [h1, h2, h3, h4, decide_eq_true (rfl : sw = sw), decide_eq_true (rfl : sh = sh)]
    simp only [Bool.true_and]
  unfold GiveR WeR
  rw [e]
/-- The program's boxes. -/
structure Five (w0 w : World) (W H tw th : Int) (A B : Option Addr) (xs ys : List Nat) (c d x y : Nat) : Prop where
  K : Below w0.heap.size w0 w
  z : w0.heap.size + 5 ≤ w.heap.size
  sa : BoxS w w0.heap.size W H A xs.length c
  sb : BoxS w (w0.heap.size + 1) tw th B ys.length d
  cx : w.cell? ⟨w0.heap.size + 2, 0, none⟩ = some (.float .f32 x)
  cy : w.cell? ⟨w0.heap.size + 3, 0, none⟩ = some (.float .f32 y)
  rb : BoxS w (w0.heap.size + 4) 0 0 none 0 0
  rf : ∀ i, w.frozen? ⟨w0.heap.size + 4, i, none⟩ = false
  hA : FRd w A xs
  hB : FRd w B ys
theorem Five.step {w0 w w' : World} {W H tw th : Int} {A B : Option Addr} {xs ys : List Nat} {c d x y : Nat} (h : Five w0 w W H tw th A B xs ys c d x y) (k : Below w.heap.size w w') : Five w0 w' W H tw th A B xs ys c d x y :=
  ⟨Below.step h.K k, Nat.le_trans h.z k.size, h.sa.below k, h.sb.below k, (k.cell (by show w0.heap.size + 2 < _; have := h.z; omega)).trans h.cx, (k.cell (by show w0.heap.size + 3 < _; have := h.z; omega)).trans h.cy, h.rb.below k, fun i => (k.frozen (by show w0.heap.size + 4 < _; have := h.z; omega)).trans (h.rf i), Rd.below h.hA k, Rd.below h.hB k⟩
theorem Five.drewN {w0 w : World} {W H tw th : Int} {A B : Option Addr} {xs ys : List Nat} {c d x y : Nat} (h : Five w0 w W H tw th A B xs ys c d x y) (n : Nat) : Five w0 (w.drewN n) W H tw th A B xs ys c d x y := h.step (below_drewN (Below.refl _ _) _)
theorem cell_new1 (w : World) (v : Value) (t : TypeId) (p : Nat) (hp : p = w.heap.size) : (w.alloc (.cells #[v] t)).cell? ⟨p, 0, none⟩ = some v := by subst hp; simp
theorem five_new (w : World) (W H tw th : Int) (A B : Option Addr) (xs ys : List Nat) (c d x y : Nat) (hA : FRd w A xs) (hB : FRd w B ys) (t1 t2 t3 t4 t5 : TypeId) :
    Five w (((((w.alloc (.cells #[.int .i64 W, .int .i64 H, .slice A xs.length c] t1)).alloc (.cells #[.int .i64 tw, .int .i64 th, .slice B ys.length d] t2)).alloc (.cells #[.float .f32 x] t3)).alloc (.cells #[.float .f32 y] t4)).alloc (.cells #[.int .i64 0, .int .i64 0, .slice none 0 0] t5)) W H tw th A B xs ys c d x y := by
  obtain ⟨u1, hu1⟩ : ∃ u, u = w.alloc (.cells #[.int .i64 W, .int .i64 H, .slice A xs.length c] t1) := ⟨_, rfl⟩
  obtain ⟨u2, hu2⟩ : ∃ u, u = u1.alloc (.cells #[.int .i64 tw, .int .i64 th, .slice B ys.length d] t2) := ⟨_, rfl⟩
  obtain ⟨u3, hu3⟩ : ∃ u, u = u2.alloc (.cells #[.float .f32 x] t3) := ⟨_, rfl⟩
  obtain ⟨u4, hu4⟩ : ∃ u, u = u3.alloc (.cells #[.float .f32 y] t4) := ⟨_, rfl⟩
  obtain ⟨u5, hu5⟩ : ∃ u, u = u4.alloc (.cells #[.int .i64 0, .int .i64 0, .slice none 0 0] t5) := ⟨_, rfl⟩
  rw [← hu1, ← hu2, ← hu3, ← hu4, ← hu5]
  have z1 : u1.heap.size = w.heap.size + 1 := by rw [hu1]; simp
  have z2 : u2.heap.size = w.heap.size + 2 := by rw [hu2, World.size_alloc, z1]
  have z3 : u3.heap.size = w.heap.size + 3 := by rw [hu3, World.size_alloc, z2]
  have z4 : u4.heap.size = w.heap.size + 4 := by rw [hu4, World.size_alloc, z3]
  have z5 : u5.heap.size = w.heap.size + 5 := by rw [hu5, World.size_alloc, z4]
  have k1 : Below w.heap.size w u1 := by rw [hu1]; exact below_alloc _ _
  have k2 : Below u1.heap.size u1 u2 := by rw [hu2]; exact below_alloc _ _
  have k3 : Below u2.heap.size u2 u3 := by rw [hu3]; exact below_alloc _ _
  have k4 : Below u3.heap.size u3 u4 := by rw [hu4]; exact below_alloc _ _
  have k5 : Below u4.heap.size u4 u5 := by rw [hu5]; exact below_alloc _ _
  have K := Below.step (Below.step (Below.step (Below.step k1 k2) k3) k4) k5
  have b1 : BoxS u1 w.heap.size W H A xs.length c := by rw [hu1]; exact boxS_new _ _ _ _ _ _ _ _ rfl
  have b2 : BoxS u2 (w.heap.size + 1) tw th B ys.length d := by rw [hu2]; exact boxS_new _ _ _ _ _ _ _ _ z1.symm
  have b3 : u3.cell? ⟨w.heap.size + 2, 0, none⟩ = some (.float .f32 x) := by rw [hu3]; exact cell_new1 _ _ _ _ z2.symm
  have b4 : u4.cell? ⟨w.heap.size + 3, 0, none⟩ = some (.float .f32 y) := by rw [hu4]; exact cell_new1 _ _ _ _ z3.symm
  have b5 : BoxS u5 (w.heap.size + 4) 0 0 none 0 0 := by rw [hu5]; exact boxS_new _ _ _ _ _ _ _ _ z4.symm
  refine ⟨K, by omega, (((b1.below k2).below k3).below k4).below k5, ((b2.below k3).below k4).below k5, (k5.cell (by show w.heap.size + 2 < _; omega)).trans ((k4.cell (by show w.heap.size + 2 < _; omega)).trans b3), (k5.cell (by show w.heap.size + 3 < _; omega)).trans b4, b5, fun i => ?_, Rd.below hA K, Rd.below hB K⟩
  rw [hu5, ← z4]
  simp
set_option maxRecDepth 100000 in
set_option maxHeartbeats 4000000 in
theorem implW_any (W H tw th : Int) (A B : Option Addr) (xs ys : List Nat) (c d x y : Nat) (w : World) (hA : FRd w A xs) (hB : FRd w B ys) (hn : xs.length ≤ maxLen) (hm : ys.length ≤ maxLen) :
    Calls Try.prog 30 #[shv W H A xs.length c, shv tw th B ys.length d, .float .f32 x, .float .f32 y] w (WeR w W H tw th xs ys x y) := by
  obtain ⟨w0, hw0⟩ : ∃ w0, w0 = (((((w.alloc (.cells #[.int .i64 W, .int .i64 H, .slice A xs.length c] 33)).alloc (.cells #[.int .i64 tw, .int .i64 th, .slice B ys.length d] 33)).alloc (.cells #[.float .f32 x] 22)).alloc (.cells #[.float .f32 y] 22)).alloc (.cells #[.int .i64 0, .int .i64 0, .slice none 0 0] 33)) := ⟨_, rfl⟩
  have F : Five w w0 W H tw th A B xs ys c d x y := by rw [hw0]; exact five_new w W H tw th A B xs ys c d x y hA hB _ _ _ _ _
  have hAB := And.intro F.sb.c0 (And.intro F.sb.c1 F.sb.c2)
  go_enter Try.func30, Try.ntmps30
  go_wp2_with fail
  rw [← hw0]
  clear hw0 hA hB
  refine (implValid_any W H A c xs _ F.hA hn).mono ?_
  rintro e w1 ⟨rfl, k1⟩
  have F := F.step k1
  clear k1 hAB
  cases hs1 : shB W H xs
  · have BB : Hid (weB W H tw th xs ys x y = false) := Lib.hid (by unfold weB; rw [hs1]; rfl)
    obtain ⟨r_, r0, r1, r2⟩ := F.rb
    have rf0 := F.rf 0
    have rf1 := F.rf 1
    have rf2 := F.rf 2
    have KK := Lib.hid F.K
    clear F
    go_wp2
    refine bodyPost_ret (v := .tuple #[shv 0 0 none 0 0, .bool false]) (by simp [results, Try.results30, go_sem, r0, r1, r2]) rfl ?_
    exact we_no BB.out (below_put3 KK.out (by omega))
  obtain ⟨b_, b0, b1, b2⟩ := F.sb
  go_wp2_with fail
  refine (implValid_any tw th B d ys _ F.hB hm).mono ?_
  rintro e w2 ⟨rfl, k2⟩
  clear b_ b0 b1 b2
  have F := F.step k2
  clear k2
  cases hs2 : shB tw th ys
  · have BB : Hid (weB W H tw th xs ys x y = false) := Lib.hid (by unfold weB; rw [hs1, hs2]; rfl)
    obtain ⟨r_, r0, r1, r2⟩ := F.rb
    have rf0 := F.rf 0
    have rf1 := F.rf 1
    have rf2 := F.rf 2
    have KK := Lib.hid F.K
    clear F
    go_wp2
    refine bodyPost_ret (v := .tuple #[shv 0 0 none 0 0, .bool false]) (by simp [results, Try.results30, go_sem, r0, r1, r2]) rfl ?_
    exact we_no BB.out (below_put3 KK.out (by omega))
  obtain ⟨a_, a0, a1, a2⟩ := F.sa
  obtain ⟨b_, b0, b1, b2⟩ := F.sb
  by_cases ht : W = tw
  rotate_left
  · have BB : Hid (weB W H tw th xs ys x y = false) := Lib.hid (by unfold weB; rw [hs1, hs2, decide_eq_false ht]; rfl)
    have hd : (W != tw) = true := by simpa using ht
    obtain ⟨r_, r0, r1, r2⟩ := F.rb
    have rf0 := F.rf 0
    have rf1 := F.rf 1
    have rf2 := F.rf 2
    have KK := Lib.hid F.K
    clear F
    go_wp2
    refine bodyPost_ret (v := .tuple #[shv 0 0 none 0 0, .bool false]) (by simp [results, Try.results30, go_sem, r0, r1, r2]) rfl ?_
    exact we_no BB.out (below_put3 KK.out (by omega))
  subst ht
  by_cases ht : H = th
  rotate_left
  · have BB : Hid (weB W H W th xs ys x y = false) := Lib.hid (by unfold weB; rw [hs1, hs2, decide_eq_true rfl, decide_eq_false ht]; rfl)
    have hd : (H != th) = true := by simpa using ht
    obtain ⟨r_, r0, r1, r2⟩ := F.rb
    have rf0 := F.rf 0
    have rf1 := F.rf 1
    have rf2 := F.rf 2
    have KK := Lib.hid F.K
    clear F
    go_wp2
    refine bodyPost_ret (v := .tuple #[shv 0 0 none 0 0, .bool false]) (by simp [results, Try.results30, go_sem, r0, r1, r2]) rfl ?_
    exact we_no BB.out (below_put3 KK.out (by omega))
  subst ht
  have x0 := F.cx
  have y0 := F.cy
  go_wp2_with fail
  refine (isFinite_any x _).mono ?_
  rintro e w3 ⟨rfl, n3, hw3⟩
  have F : Five w w3 W H W H A B xs ys c d x y := by rw [hw3]; exact F.drewN _
  clear a_ a0 a1 a2 b_ b0 b1 b2 x0 y0 hw3
  cases hs3 : finB (cn .f32 x)
  · have BB : Hid (weB W H W H xs ys x y = false) := Lib.hid (by unfold weB; rw [hs1, hs2, hs3, decide_eq_true rfl, decide_eq_true rfl]; rfl)
    obtain ⟨r_, r0, r1, r2⟩ := F.rb
    have rf0 := F.rf 0
    have rf1 := F.rf 1
    have rf2 := F.rf 2
    have KK := Lib.hid F.K
    clear F
    go_wp2
    refine bodyPost_ret (v := .tuple #[shv 0 0 none 0 0, .bool false]) (by simp [results, Try.results30, go_sem, r0, r1, r2]) rfl ?_
    exact we_no BB.out (below_put3 KK.out (by omega))
  have y0 := F.cy
  go_wp2_with fail
  refine (isFinite_any y _).mono ?_
  rintro e w4 ⟨rfl, n4, hw4⟩
  have F : Five w w4 W H W H A B xs ys c d x y := by rw [hw4]; exact F.drewN _
  clear y0 hw4
  cases hs4 : finB (cn .f32 y)
  · have BB : Hid (weB W H W H xs ys x y = false) := Lib.hid (by unfold weB; rw [hs1, hs2, hs3, hs4, decide_eq_true rfl, decide_eq_true rfl]; rfl)
    obtain ⟨r_, r0, r1, r2⟩ := F.rb
    have rf0 := F.rf 0
    have rf1 := F.rf 1
    have rf2 := F.rf 2
    have KK := Lib.hid F.K
    clear F
    go_wp2
    refine bodyPost_ret (v := .tuple #[shv 0 0 none 0 0, .bool false]) (by simp [results, Try.results30, go_sem, r0, r1, r2]) rfl ?_
    exact we_no BB.out (below_put3 KK.out (by omega))
  have WY := Lib.hid (we_yes (w := w) hs1 hs2 hs3 hs4)
  obtain ⟨h0, h1⟩ := shB_pos hs1
  have hyl : ys.length = xs.length := by have a := shB_len hs1; have b := shB_len hs2; omega
  have hI := changed_any W H A xs.length c 68 #[.pointer (some ⟨w.heap.size + 2, 0, none⟩), .pointer (some ⟨w.heap.size, 0, none⟩), .pointer (some ⟨w.heap.size + 3, 0, none⟩), .pointer (some ⟨w.heap.size + 1, 0, none⟩)] (fun i => wgh (cn .f32 x) (cn .f32 y) ((cl xs).getD i 0) ((cl ys).getD i 0)) w4 h1
    (fun i wr hi hb => by
      have hi2 : i < ys.length := by omega
      have F := F.step hb
      have := wgh1_any A B c d xs ys i x y (w.heap.size + 2) w.heap.size (w.heap.size + 3) (w.heap.size + 1) wr F.hA F.hB hi hi2 h1 (by omega) (finL_at hi (shB_finL hs1)) (finL_at hi2 (shB_finL hs2)) hs3 hs4 F.cx F.sa.c2 F.cy F.sb.c2
      have e1 : (cl xs).getD i 0 = cn .f32 xs[i] := by simp [cl, hi]
      have e2 : (cl ys).getD i 0 = cn .f32 ys[i] := by simp [cl, hi2]
      simp only [e1, e2]
      exact this) enter_wgh1
  rw [wg_range _ _ _ _ hyl] at hI
  have F0 := Lib.hid F
  obtain ⟨a_, a0, a1, a2⟩ := F.sa
  clear F
  unfold GiveR at hI
  generalize g1 : (if shC W H (wgL (cn .f32 x) (cn .f32 y) (cl xs) (cl ys)) then W else 0) = fw at hI
  generalize g2 : (if shC W H (wgL (cn .f32 x) (cn .f32 y) (cl xs) (cl ys)) then H else 0) = fh at hI
  generalize g3 : (if shC W H (wgL (cn .f32 x) (cn .f32 y) (cl xs) (cl ys)) then wgL (cn .f32 x) (cn .f32 y) (cl xs) (cl ys) else []) = fl at hI
  generalize g4 : shC W H (wgL (cn .f32 x) (cn .f32 y) (cl xs) (cl ys)) = ok at hI
  have HG := Lib.hid (And.intro g1 (And.intro g2 (And.intro g3 g4)))
  clear g1 g2 g3 g4
  go_wp2_with fail
  refine hI.mono ?_
  rintro e w5 ⟨A5, c5, xs5, rfl, e5, o5, k5⟩
  clear hI a_ a0 a1 a2
  have F := F0.out.step k5
  have z4 := F0.out.K.size
  have z5 := F0.out.z
  clear F0
  obtain ⟨r_, r0, r1, r2⟩ := F.rb
  have rf0 := F.rf 0
  have rf1 := F.rf 1
  have rf2 := F.rf 2
  have K5 := Lib.hid F.K
  have O5 := Lib.hid o5
  have E5 := Lib.hid e5

  clear F k5 o5 e5
  go_wp2
  refine bodyPost_ret (v := .tuple #[shv fw fh A5 xs5.length c5, .bool ok]) (by simp [results, Try.results30, go_sem, r0, r1, r2]) rfl ?_
  rw [← WY.out]
  unfold GiveR
  rw [HG.out.1, HG.out.2.1, HG.out.2.2.1, HG.out.2.2.2]
  exact ⟨A5, c5, xs5, rfl, E5.out, (own_put3 O5.out (by omega) _ _ _).less (by omega), below_put3 K5.out (by omega)⟩
end Go.Proofs.Ytenepnbickpcjaa
