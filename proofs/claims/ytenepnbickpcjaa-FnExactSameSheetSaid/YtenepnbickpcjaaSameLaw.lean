/- The law's walk of SameSheet. -/
import Derived.Test.YtenepnbickpcjaaSameN
import Derived.Deep.RegionWith
import Derived.BigRegion
import Derived.Deep.RegionHeld3
namespace Go.Proofs.Ytenepnbickpcjaa
open Go.RowKit

/-- A sheet in a box. -/
structure Box (w : World) (p : Nat) (sw sh : Int) (A : Option Addr) (n c : Nat) : Prop where
  lt : p < w.heap.size
  c0 : w.cell? ⟨p, 0, none⟩ = some (.int .i64 sw)
  c1 : w.cell? ⟨p, 1, none⟩ = some (.int .i64 sh)
  c2 : w.cell? ⟨p, 2, none⟩ = some (.slice A n c)
theorem Box.below {w w' : World} {p : Nat} {sw sh : Int} {A : Option Addr} {n c : Nat} (h : Box w p sw sh A n c) (k : Below w.heap.size w w') : Box w' p sw sh A n c :=
  ⟨Nat.lt_of_lt_of_le h.lt k.size, (k.cell h.lt).trans h.c0, (k.cell h.lt).trans h.c1, (k.cell h.lt).trans h.c2⟩
theorem Box.drewN {w : World} {p : Nat} {sw sh : Int} {A : Option Addr} {n c : Nat} (h : Box w p sw sh A n c) (m : Nat) : Box (w.drewN m) p sw sh A n c := ⟨h.lt, h.c0, h.c1, h.c2⟩
theorem box_new (w : World) (sw sh : Int) (A : Option Addr) (n c : Nat) (t : TypeId) (p : Nat) (hp : p = w.heap.size) : Box (w.alloc (.cells #[.int .i64 sw, .int .i64 sh, .slice A n c] t)) p sw sh A n c := by
  subst hp
  exact ⟨by simp, by simp, by simp, by simp⟩

theorem six_below {w w' : World} {p q : Nat} {sw sh tw th : Int} {A B : Option Addr} {n c m d : Nat} (k : Below w.heap.size w w') (hp : p < w.heap.size) (hq : q < w.heap.size)
    (h : w.cell? ⟨p, 0, none⟩ = some (.int .i64 sw) ∧ w.cell? ⟨p, 1, none⟩ = some (.int .i64 sh) ∧ w.cell? ⟨p, 2, none⟩ = some (.slice A n c) ∧ w.cell? ⟨q, 0, none⟩ = some (.int .i64 tw) ∧ w.cell? ⟨q, 1, none⟩ = some (.int .i64 th) ∧ w.cell? ⟨q, 2, none⟩ = some (.slice B m d)) :
    w'.cell? ⟨p, 0, none⟩ = some (.int .i64 sw) ∧ w'.cell? ⟨p, 1, none⟩ = some (.int .i64 sh) ∧ w'.cell? ⟨p, 2, none⟩ = some (.slice A n c) ∧ w'.cell? ⟨q, 0, none⟩ = some (.int .i64 tw) ∧ w'.cell? ⟨q, 1, none⟩ = some (.int .i64 th) ∧ w'.cell? ⟨q, 2, none⟩ = some (.slice B m d) := by
  obtain ⟨h0, h1, h2, h3, h4, h5⟩ := h
  exact ⟨(k.cell hp).trans h0, (k.cell hp).trans h1, (k.cell hp).trans h2, (k.cell hq).trans h3, (k.cell hq).trans h4, (k.cell hq).trans h5⟩

set_option maxRecDepth 100000 in
set_option maxHeartbeats 4000000 in
theorem sameLaw (sw sh tw th : Int) (A B : Option Addr) (ca cb : Nat) (xs ys : List Nat) (w : World) (hA : FRd w A xs) (hB : FRd w B ys) (hn : xs.length ≤ maxLen) (hm : ys.length ≤ maxLen) (hx : ∀ x ∈ xs, x < 4294967296) (hy : ∀ x ∈ ys, x < 4294967296) :
    Calls Try.prog 5 #[shv sw sh A xs.length ca, shv tw th B ys.length cb] w fun e w' => e = .returned (.bool true) ∧ Below w.heap.size w w' := by
  have HX := Lib.hid hx
  have HY := Lib.hid hy
  clear hx hy
  have K0 : Below w.heap.size w ((w.alloc (.cells #[.int .i64 sw, .int .i64 sh, .slice A xs.length ca] 30)).alloc (.cells #[.int .i64 tw, .int .i64 th, .slice B ys.length cb] 30)) := Below.step (below_alloc _ _) (below_alloc _ _)
  have xa0 := (box_new w sw sh A xs.length ca 30 _ rfl).below (below_alloc _ (.cells #[.int .i64 tw, .int .i64 th, .slice B ys.length cb] 30))
  have xb0 := box_new (w.alloc (.cells #[.int .i64 sw, .int .i64 sh, .slice A xs.length ca] 30)) tw th B ys.length cb 30 (w.heap.size + 1) (by simp)
  by_cases hl : xs.length ≤ 1048576
  · by_cases hl2 : ys.length ≤ 1048576 - xs.length
    · go_enter Try.func5, Try.ntmps5
      go_wp2_with fail
      refine (szSheet_few _ _ _ _ _ 1048576 _ (Nat.le_refl _) hl).mono ?_
      rintro e w1 ⟨rfl, k1⟩
      have ba1 := xa0.below k1
      have bb1 := xb0.below k1
      have hA1 := (Rd.below hA K0).below k1
      have hB1 := (Rd.below hB K0).below k1
      have K1 := Below.step K0 k1
      clear k1 xa0 xb0 K0 hA hB
      obtain ⟨a_, a0, a1, a2⟩ := ba1
      obtain ⟨b_, b0, b1, b2⟩ := bb1
      go_wp2_with fail
      refine (szSheet_few _ _ _ _ _ (1048576 - xs.length) _ (by omega) hl2).mono ?_
      rintro e w2 ⟨rfl, k2⟩
      obtain ⟨a_, a0, a1, a2⟩ := (Box.mk a_ a0 a1 a2).below k2
      obtain ⟨b_, b0, b1, b2⟩ := (Box.mk b_ b0 b1 b2).below k2
      have hA2 := Rd.below hA1 k2
      have hB2 := Rd.below hB1 k2
      have K2 := Below.step K1 k2
      clear k2 K1 hA1 hB1
      go_wp2_with fail
      have tok1 : True := trivial
      have s2 := And.intro a0 (And.intro a1 (And.intro a2 (And.intro b0 (And.intro b1 b2))))
      go_region_held3 (fun w' => w'.cell? ⟨w.heap.size, 0, none⟩ = some (.int .i64 sw) ∧ w'.cell? ⟨w.heap.size, 1, none⟩ = some (.int .i64 sh) ∧ w'.cell? ⟨w.heap.size, 2, none⟩ = some (.slice A xs.length ca) ∧ w'.cell? ⟨w.heap.size + 1, 0, none⟩ = some (.int .i64 tw) ∧ w'.cell? ⟨w.heap.size + 1, 1, none⟩ = some (.int .i64 th) ∧ w'.cell? ⟨w.heap.size + 1, 2, none⟩ = some (.slice B ys.length cb))
        (first | (exact s2) | (exact s3) | (exact s4) | (exact s5) | go_keep)
        (first
        | (go_at_call 18; have _t := tok1; clear tok1; refine (toSheet_any sw sh A ca xs _ (by exact hA2) (by omega)).mono ?_; rintro e w3 ⟨A3, c3, rfl, oa3, k3⟩; have s3 := six_below k3 (by exact a_) (by exact b_) s2; have a3_ := Nat.lt_of_lt_of_le a_ k3.size; have b3_ := Nat.lt_of_lt_of_le b_ k3.size; have hA3 := Rd.below (w := w2.drew) (by exact hA2) k3; have hB3 := Rd.below (w := w2.drew) (by exact hB2) k3; have K3 := Below.step K2.drew k3; clear k3)
        | (go_at_call 18; refine (toSheet_any tw th B cb ys _ hB3 (by omega)).mono ?_; rintro e w4 ⟨B4, c4, rfl, ob4, k4⟩; have s4 := six_below k4 a3_ b3_ s3; have a4_ := Nat.lt_of_lt_of_le a3_ k4.size; have b4_ := Nat.lt_of_lt_of_le b3_ k4.size; have oa4 := oa3.below k4; have hA4 := Rd.below hA3 k4; have hB4 := Rd.below hB3 k4; have K4 := Below.step K3 k4; clear k4)
        | (go_at_call 21; refine (specSame_any _ _ _ _ _ _ _ _ _ _ _ oa4.1 ob4.1 hn hm HX.out HY.out).mono ?_; rintro e w5 ⟨rfl, k5⟩; have s5 := six_below k5 a4_ b4_ s4; have a5_ := Nat.lt_of_lt_of_le a4_ k5.size; have b5_ := Nat.lt_of_lt_of_le b4_ k5.size; have hA5 := Rd.below hA4 k5; have hB5 := Rd.below hB4 k5; have K5 := Below.step K4 k5; clear k5))
      clear s2 s3 s4 a0 a1 a2 b0 b1 b2 a_ b_ a3_ b3_ oa3 oa4 ob4 hA2 hA3 hA4 hB2 hB3 hB4 K2 K3 K4
      obtain ⟨a0, a1, a2, b0, b1, b2⟩ := s5
      have a_ := a5_
      have b_ := b5_
      go_wp2_with fail
      refine (toSheet_any _ _ _ _ _ _ hA5 (by omega)).mono ?_
      rintro e w6 ⟨A6, c6, rfl, oa6, k6⟩
      obtain ⟨a_, a0, a1, a2⟩ := (Box.mk a_ a0 a1 a2).below k6
      obtain ⟨b_, b0, b1, b2⟩ := (Box.mk b_ b0 b1 b2).below k6
      have hA6 := Rd.below hA5 k6
      have hB6 := Rd.below hB5 k6
      have K6 := Below.step K5 k6
      clear k6 K5 hA5 hB5
      go_wp2_with fail
      obtain ⟨v6, hv6⟩ : ∃ v6, v6 = w6.alloc (.cells #[.int .i64 sw, .int .i64 sh, .slice A6 xs.length c6] 33) := ⟨_, rfl⟩
      have kx : Below w6.heap.size w6 v6 := by rw [hv6]; exact below_alloc _ _
      have bx : Box v6 w6.heap.size sw sh A6 xs.length c6 := by rw [hv6]; exact box_new _ _ _ _ _ _ _ _ rfl
      obtain ⟨x_, x0, x1, x2⟩ := bx
      rw [← hv6]
      obtain ⟨a_, a0, a1, a2⟩ := (Box.mk a_ a0 a1 a2).below kx
      obtain ⟨b_, b0, b1, b2⟩ := (Box.mk b_ b0 b1 b2).below kx
      have oa6 := oa6.below kx
      have hA6 := Rd.below hA6 kx
      have hB6 := Rd.below hB6 kx
      have K6 := Below.step K6 kx
      clear kx hv6
      refine (toSheet_any _ _ _ _ _ _ hB6 (by omega)).mono ?_
      rintro e w7 ⟨B7, c7, rfl, ob7, k7⟩
      obtain ⟨a_, a0, a1, a2⟩ := (Box.mk a_ a0 a1 a2).below k7
      obtain ⟨b_, b0, b1, b2⟩ := (Box.mk b_ b0 b1 b2).below k7
      obtain ⟨x_, x0, x1, x2⟩ := (Box.mk x_ x0 x1 x2).below k7
      have oa7 := oa6.below k7
      have hA7 := Rd.below hA6 k7
      have hB7 := Rd.below hB6 k7
      have K7 := Below.step K6 k7
      clear k7 K6 hA6 hB6 oa6
      have kx := below_alloc w7 (.cells #[.int .i64 tw, .int .i64 th, .slice B7 ys.length c7] 33)
      obtain ⟨y_, y0, y1, y2⟩ := box_new w7 tw th B7 ys.length c7 33 w7.heap.size rfl
      obtain ⟨a_, a0, a1, a2⟩ := (Box.mk a_ a0 a1 a2).below kx
      obtain ⟨b_, b0, b1, b2⟩ := (Box.mk b_ b0 b1 b2).below kx
      obtain ⟨x_, x0, x1, x2⟩ := (Box.mk x_ x0 x1 x2).below kx
      have oa7 := oa7.below kx
      have ob7 := ob7.below kx
      have hA7 := Rd.below hA7 kx
      have hB7 := Rd.below hB7 kx
      have K7 := Below.step K7 kx
      clear kx
      go_wp2_with fail
      refine (implSame_any _ _ _ _ _ _ _ _ _ _ _ oa7.1 ob7.1 hn hm HX.out HY.out).mono ?_
      rintro e w8 ⟨rfl, k8⟩
      obtain ⟨a_, a0, a1, a2⟩ := (Box.mk a_ a0 a1 a2).below k8
      obtain ⟨b_, b0, b1, b2⟩ := (Box.mk b_ b0 b1 b2).below k8
      obtain ⟨x_, x0, x1, x2⟩ := (Box.mk x_ x0 x1 x2).below k8
      obtain ⟨y_, y0, y1, y2⟩ := (Box.mk y_ y0 y1 y2).below k8
      have hx8 := Rd.below oa7.1 k8
      have hy8 := Rd.below ob7.1 k8
      have hA8 := Rd.below hA7 k8
      have hB8 := Rd.below hB7 k8
      have K8 := Below.step K7 k8
      clear k8 K7 hA7 hB7 oa7 ob7 HX HY
      go_wp2_with fail
      go_region_held3 (fun w' => w'.cell? ⟨w.heap.size, 0, none⟩ = some (.int .i64 sw) ∧ w'.cell? ⟨w.heap.size, 1, none⟩ = some (.int .i64 sh) ∧ w'.cell? ⟨w.heap.size, 2, none⟩ = some (.slice A xs.length ca) ∧ w'.cell? ⟨w6.heap.size, 0, none⟩ = some (.int .i64 sw) ∧ w'.cell? ⟨w6.heap.size, 1, none⟩ = some (.int .i64 sh) ∧ w'.cell? ⟨w6.heap.size, 2, none⟩ = some (.slice A6 xs.length c6))
        (first | (exact ⟨a0, a1, a2, x0, x1, x2⟩) | (exact s9) | (exact s10))
        (first
        | (go_at_call 18; refine (toSheet_any sw sh A ca xs _ (by exact hA8) (by omega)).mono ?_; rintro e w9 ⟨A9, c9, rfl, oa9, k9⟩; have s9 := six_below k9 (by exact a_) (by exact x_) (And.intro a0 (And.intro a1 (And.intro a2 (And.intro x0 (And.intro x1 x2))))); have a9_ := Nat.lt_of_lt_of_le a_ k9.size; have x9_ := Nat.lt_of_lt_of_le x_ k9.size; have b9 := (Box.mk b_ b0 b1 b2).below (w := w8) (w' := w9) (by exact (Below.refl _ _).drew.trans k9); have y9 := (Box.mk y_ y0 y1 y2).below (w := w8) (w' := w9) (by exact (Below.refl _ _).drew.trans k9); have hx9 := Rd.below (w := w8.drew) (by exact hx8) k9; have hy9 := Rd.below (w := w8.drew) (by exact hy8) k9; have hB9 := Rd.below (w := w8.drew) (by exact hB8) k9; have K9 := Below.step K8.drew k9; clear k9)
        | (go_at_call 20; refine (eqSheet_ok _ _ _ _ _ _ _ _ _ hx9 oa9.1 hn rfl).mono ?_; rintro e w10 ⟨rfl, k10⟩; have s10 := six_below k10 a9_ x9_ s9; have b10 := b9.below k10; have y10 := y9.below k10; have hy10 := Rd.below hy9 k10; have hB10 := Rd.below hB9 k10; have K10 := Below.step K9 k10; clear k10))
      clear a0 a1 a2 x0 x1 x2 s9 s10 b0 b1 b2 y0 y1 y2 b9 y9 hy8 hy9 hB8 hB9 K8 K9 oa9 hx8 hx9 hA8 a_ b_ x_ y_
      obtain ⟨b_, b0, b1, b2⟩ := b10
      obtain ⟨y_, y0, y1, y2⟩ := y10
      go_wp2_with fail
      go_region_held3 (fun w' => w'.cell? ⟨w.heap.size + 1, 0, none⟩ = some (.int .i64 tw) ∧ w'.cell? ⟨w.heap.size + 1, 1, none⟩ = some (.int .i64 th) ∧ w'.cell? ⟨w.heap.size + 1, 2, none⟩ = some (.slice B ys.length cb) ∧ w'.cell? ⟨w7.heap.size, 0, none⟩ = some (.int .i64 tw) ∧ w'.cell? ⟨w7.heap.size, 1, none⟩ = some (.int .i64 th) ∧ w'.cell? ⟨w7.heap.size, 2, none⟩ = some (.slice B7 ys.length c7))
        (first | (exact ⟨b0, b1, b2, y0, y1, y2⟩) | (exact s11) | (exact s12))
        (first
        | (go_at_call 18; refine (toSheet_any tw th B cb ys _ (by exact hB10) (by omega)).mono ?_; rintro e w11 ⟨B11, c11, rfl, ob11, k11⟩; have s11 := six_below k11 (by exact b_) (by exact y_) (And.intro b0 (And.intro b1 (And.intro b2 (And.intro y0 (And.intro y1 y2))))); have b11_ := Nat.lt_of_lt_of_le b_ k11.size; have y11_ := Nat.lt_of_lt_of_le y_ k11.size; have hy11 := Rd.below (w := w10.drew) (by exact hy10) k11; have K11 := Below.step K10.drew k11; clear k11)
        | (go_at_call 20; refine (eqSheet_ok _ _ _ _ _ _ _ _ _ hy11 ob11.1 hm rfl).mono ?_; rintro e w12 ⟨rfl, k12⟩; have s12 := six_below k12 b11_ y11_ s11; have K12 := Below.step K11 k12; clear k12))
      go_wp2
      go_ret
      exact ⟨rfl, K12⟩
    · go_enter Try.func5, Try.ntmps5
      go_wp2_with fail
      refine (szSheet_few _ _ _ _ _ 1048576 _ (Nat.le_refl _) hl).mono ?_
      rintro e w1 ⟨rfl, k1⟩
      obtain ⟨b_, b0, b1, b2⟩ := xb0.below k1
      have K1 := Below.step K0 k1
      clear k1 K0
      go_wp2_with fail
      refine (szSheet_many _ _ _ _ _ (1048576 - xs.length) _ (by omega) (by omega) hm).mono ?_
      rintro e w2 ⟨rfl, k2⟩
      have K2 := Below.step K1 k2
      clear k2 K1
      go_wp2
      go_ret
      exact ⟨rfl, K2⟩
  · go_enter Try.func5, Try.ntmps5
    go_wp2_with fail
    refine (szSheet_many _ _ _ _ _ 1048576 _ (Nat.le_refl _) (by omega) hn).mono ?_
    rintro e w1 ⟨rfl, k1⟩
    go_wp2
    go_ret
    exact ⟨rfl, Below.step K0 k1⟩
end Go.Proofs.Ytenepnbickpcjaa
