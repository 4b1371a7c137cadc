/- The heights around a place: both sides. -/
import Derived.Test.YtenepnbickpcjaaBoxS
import Derived.Test.YtenepnbickpcjaaDraw
import Derived.BigQuiet
import Derived.StillTailTactics
import Derived.BigGuardPart
namespace Go.Proofs.Ytenepnbickpcjaa
open Go.RowKit

/-- A place of a square of n. -/
def inb (n : Nat) (x y : Int) : Bool := (decide (0 ≤ x) && decide (x ≤ (n : Int) - 1)) && (decide (0 ≤ y) && decide (y ≤ (n : Int) - 1))
/-- The sum of the heights at places, and how many of them there are. -/
def arS (n : Nat) (hs : List Nat) (x y : Int) : List (Int × Int) → Nat × Nat → Nat × Nat
  | [], r => r
  | d :: l, r => arS n hs x y l (if inb n (x + d.1) (y + d.2) then (fop .add .f32 r.1 (hs.getD ((y + d.2) * n + x + d.1).toNat 0), r.2 + 1) else r)
/-- Steps lie in memory. -/
def StR (w : World) (g : Nat) (l : List (Int × Int)) : Prop := ∀ k (h : k < l.length), w.cell? ⟨g, k * 2, none⟩ = some (.int .i64 l[k].1) ∧ w.cell? ⟨g, k * 2 + 1, none⟩ = some (.int .i64 l[k].2)
theorem StR.below {w w' : World} {g : Nat} {l : List (Int × Int)} (h : StR w g l) (k : Below w.heap.size w w') : StR w' g l := fun i hi => by
  obtain ⟨h1, h2⟩ := h i hi
  have lt := World.block_lt_of_cell? _ _ h1
  exact ⟨(k.cell lt).trans h1, (k.cell (p := ⟨g, i * 2 + 1, none⟩) lt).trans h2⟩
theorem StR.drewN {w : World} {g : Nat} {l : List (Int × Int)} (h : StR w g l) (m : Nat) : StR (w.drewN m) g l := h
theorem within_yes (a lo hi : Int) (w : World) (h1 : lo ≤ a) (h2 : a ≤ hi) : Calls Try.prog 46 #[.int .i64 a, .int .i64 lo, .int .i64 hi] w fun e w' => e = .returned (.bool true) ∧ w = w' :=
  (within_any a lo hi w).mono (by rintro e w' ⟨rfl, rfl⟩; exact ⟨by rw [decide_eq_true h1, decide_eq_true h2]; rfl, rfl⟩)
theorem within_no (a lo hi : Int) (w : World) (h : ¬ (lo ≤ a ∧ a ≤ hi)) : Calls Try.prog 46 #[.int .i64 a, .int .i64 lo, .int .i64 hi] w fun e w' => e = .returned (.bool false) ∧ w = w' :=
  (within_any a lo hi w).mono (by
    rintro e w' ⟨rfl, rfl⟩
    refine ⟨?_, rfl⟩
    by_cases h1 : lo ≤ a
    · rw [decide_eq_true h1, decide_eq_false (fun h2 => h ⟨h1, h2⟩)]; rfl
    · rw [decide_eq_false h1]; rfl)
theorem cnt_bits : ∀ k, k < 4 → floatBits .add .f32 (fm k) 1065353216 = some (fm (k + 1)) := by decide +kernel
theorem cnt_res {k : Nat} (h : k < 4) (w : World) : fres .add .f32 (fm k) 1065353216 w = fm (k + 1) := by
  unfold fres; rw [cnt_bits k h]
theorem idx_in {n : Nat} {a b : Int} (h : inb n a b = true) : 0 ≤ b * n + a ∧ b * n + a < ((n * n : Nat) : Int) ∧ 0 ≤ b * n ∧ b * n ≤ 16 * 17 ∨ 17 < n := by
  unfold inb at h
  simp only [Bool.and_eq_true, decide_eq_true_eq] at h
  obtain ⟨⟨h1, h2⟩, h3, h4⟩ := h
  by_cases hn : 17 < n
  · exact .inr hn
  refine .inl ?_
  have m1 : 0 ≤ b * (n : Int) := Int.mul_nonneg h3 (by omega)
  have m2 : b * (n : Int) ≤ ((n : Int) - 1) * n := Int.mul_le_mul_of_nonneg_right h4 (by omega)
  have m3 : ((n : Int) - 1) * n = (n : Int) * n - n := by rw [Int.sub_mul, Int.one_mul]
  have m4 : b * (n : Int) ≤ 16 * n := Int.mul_le_mul_of_nonneg_right (by omega) (by omega)
  push_cast
  refine ⟨by omega, by omega, m1, by omega⟩
theorem arS_in {n : Nat} {hs : List Nat} {x y : Int} {d : Int × Int} {l : List (Int × Int)} {r : Nat × Nat} (h : inb n (x + d.1) (y + d.2) = true) : arS n hs x y (d :: l) r = arS n hs x y l (fop .add .f32 r.1 (hs.getD ((y + d.2) * n + x + d.1).toNat 0), r.2 + 1) := by
  show arS n hs x y l _ = _
  rw [if_pos h]
theorem arS_out {n : Nat} {hs : List Nat} {x y : Int} {d : Int × Int} {l : List (Int × Int)} {r : Nat × Nat} (h : inb n (x + d.1) (y + d.2) = false) : arS n hs x y (d :: l) r = arS n hs x y l r := by
  show arS n hs x y l _ = _
  rw [if_neg (by rw [h]; decide)]
theorem getD_cl {xs : List Nat} {i : Nat} (h : i < xs.length) : (cl xs).getD i 0 = cn .f32 xs[i] := by simp [cl, h]
set_option maxRecDepth 100000 in
set_option maxHeartbeats 4000000 in
theorem around_any (n : Nat) (A : Option Addr) (c : Nat) (xs : List Nat) (x y : Int) (g : Nat) (l : List (Int × Int)) (w : World) (hA : FRd w A xs) (hn : n ≤ 17) (hx : xs.length = n * n) (hl : l.length = 4) (hS : StR w g l)
    (bx : 0 ≤ x ∧ x ≤ 16) (bY : 0 ≤ y ∧ y ≤ 16) (hd : ∀ d ∈ l, -16 ≤ d.1 ∧ d.1 ≤ 16 ∧ -16 ≤ d.2 ∧ d.2 ≤ 16) :
    Calls Try.prog 82 #[shv n n A xs.length c, .int .i64 x, .int .i64 y, .slice (some ⟨g, 0, none⟩) 4 4] w fun e w' => ∃ s k, e = .returned (.tuple #[.float .f32 s, .float .f32 (fm k)]) ∧ (cn .f32 s, k) = arS n (cl xs) x y l (0, 0) ∧ Below w.heap.size w w' := by
  obtain ⟨x0, x1⟩ := bx
  obtain ⟨y0, y1⟩ := bY
  have hn0 : (n : Int) ≤ 17 := by omega
  have HX := Lib.hid hx
  clear hx
  obtain ⟨w0, hw0⟩ : ∃ w0, w0 = w.alloc (.cells #[.int .i64 n, .int .i64 n, .slice A xs.length c] 33) := ⟨_, rfl⟩
  have k0 : Below w.heap.size w w0 := by rw [hw0]; exact below_alloc _ _
  have sb : BoxS w0 w.heap.size n n A xs.length c := by rw [hw0]; exact boxS_new _ _ _ _ _ _ _ _ rfl
  have hA := Rd.below hA k0
  have hS := hS.below k0
  go_enter Try.func82, Try.ntmps82
  go_wp2_with fail
  rw [← hw0]
  clear hw0
  go_loopw [10, 11, 16] (fun s q i wr => ∃ (k sm kk : Nat), k ≤ 4 ∧ i = .int .i64 k ∧ s = .float .f32 sm ∧ q = .float .f32 (fm kk) ∧ kk ≤ k ∧ Below w0.heap.size w0 wr ∧ Hid (arS n (cl xs) x y (l.drop k) (cn .f32 sm, kk) = arS n (cl xs) x y l (0, 0))) (fun _ _ i _ => 4 - (intOf i).toNat)
  case atStart => exact ⟨0, 0, 0, Nat.zero_le _, rfl, rfl, rfl, Nat.le_refl _, Below.refl _ _, Lib.hid rfl⟩
  case round =>
    obtain ⟨k, sm, kk, hk, rfl, rfl, rfl, hkk, hb, HR⟩ := hrel
    obtain ⟨s_, s0, s1, s2⟩ := sb.below hb
    by_cases hlt : k < 4
    · have hkl : k < l.length := by omega
      obtain ⟨d0, d1⟩ := (hS.below hb) k hkl
      obtain ⟨e1, e2, e3, e4⟩ := hd l[k] (List.getElem_mem hkl)
      have hki : (k : Int) < 4 := by omega
      have HD : Hid (arS n (cl xs) x y (l[k] :: l.drop (k + 1)) (cn .f32 sm, kk) = arS n (cl xs) x y l (0, 0)) := Lib.hid (by rw [← HR.out, List.drop_eq_getElem_cons hkl])
      clear HR
      cases hin : inb n (x + l[k].1) (y + l[k].2)
      · have HN : Hid (arS n (cl xs) x y (l.drop (k + 1)) (cn .f32 sm, kk) = arS n (cl xs) x y l (0, 0)) := Lib.hid (by rw [← HD.out, arS_out hin])
        generalize l[k].1 = dx at *
        generalize l[k].2 = dy at *
        clear HD
        by_cases hx1 : 0 ≤ x + dx ∧ x + dx ≤ (n : Int) - 1
        · have hy1 : ¬ (0 ≤ y + dy ∧ y + dy ≤ (n : Int) - 1) := fun h => by
            unfold inb at hin
            rw [decide_eq_true hx1.1, decide_eq_true hx1.2, decide_eq_true h.1, decide_eq_true h.2] at hin
            cases hin
          obtain ⟨hx1, hx2⟩ := hx1
          go_wp2_with fail
          refine (within_yes _ _ _ _ hx1 hx2).mono ?_
          rintro e w' ⟨rfl, rfl⟩
          go_wp2_with fail
          refine (within_no _ _ _ _ hy1).mono ?_
          rintro e w' ⟨rfl, rfl⟩
          go_wp2
          refine ⟨⟨k + 1, sm, kk, by omega, by go_num, rfl, rfl, by omega, Below.step hb (below_alloc _ _), HN⟩, ?_⟩
          simp [intOf]
          omega
        · go_wp2_with fail
          refine (within_no _ _ _ _ hx1).mono ?_
          rintro e w' ⟨rfl, rfl⟩
          go_wp2
          refine ⟨⟨k + 1, sm, kk, by omega, by go_num, rfl, rfl, by omega, Below.step hb (below_alloc _ _), HN⟩, ?_⟩
          simp [intOf]
          omega
      · have HN : Hid (arS n (cl xs) x y (l.drop (k + 1)) (fop .add .f32 (cn .f32 sm) ((cl xs).getD ((y + l[k].2) * n + x + l[k].1).toNat 0), kk + 1) = arS n (cl xs) x y l (0, 0)) := Lib.hid (by rw [← HD.out, arS_in hin])
        obtain ⟨i0, i1, i2, i3⟩ | hbad := idx_in hin
        rotate_left
        · omega
        have i0' : 0 ≤ (y + l[k].2) * n + x + l[k].1 := by omega
        have i1' : (y + l[k].2) * n + x + l[k].1 < xs.length := by rw [HX.out]; omega
        obtain ⟨j, hj⟩ : ∃ j : Nat, (y + l[k].2) * n + x + l[k].1 = j := ⟨((y + l[k].2) * n + x + l[k].1).toNat, by omega⟩
        have hjl : j < xs.length := by omega
        rw [hj] at HN
        have HN : Hid (arS n (cl xs) x y (l.drop (k + 1)) (fop .add .f32 (cn .f32 sm) (cn .f32 xs[j]), kk + 1) = arS n (cl xs) x y l (0, 0)) := Lib.hid (by rw [← HN.out, Int.toNat_natCast, getD_cl hjl])
        have hin' := hin
        unfold inb at hin
        simp only [Bool.and_eq_true, decide_eq_true_eq] at hin
        obtain ⟨⟨hx1, hx2⟩, hy1, hy2⟩ := hin
        generalize l[k].1 = dx at *
        generalize l[k].2 = dy at *
        have hAr : FRd wr A xs := Rd.below hA hb
        obtain ⟨b, o, rfl, hb2, hc⟩ := hAr.at_ hjl
        generalize xs[j] = v at hc HN
        clear HD
        go_wp2_with fail
        refine (within_yes _ _ _ _ hx1 hx2).mono ?_
        rintro e w' ⟨rfl, rfl⟩
        go_wp2_with fail
        refine (within_yes _ _ _ _ hy1 hy2).mono ?_
        rintro e w' ⟨rfl, rfl⟩
        go_wp2
        refine ⟨⟨k + 1, _, kk + 1, by omega, by go_num, rfl, by rw [cnt_res (by omega)], by omega, below_drewN (Below.step hb (below_alloc _ _)) _, by rw [cn_fres]; exact HN⟩, ?_⟩
        simp [intOf]
        omega
    · obtain rfl : k = 4 := by omega
      go_wp2
      go_ret2
      exact ⟨sm, kk, rfl, by rw [← HR.out, List.drop_of_length_le (by omega)]; rfl, k0.trans (hb.mono k0.size)⟩
/-- The steps to the sides. -/
def sides4 (h : Int) : List (Int × Int) := [(0, -h), (-h, 0), (h, 0), (0, h)]
/-- Whole numbers lie in memory. -/
def IntR (w : World) (g : Nat) (l : List Int) : Prop := ∀ k (h : k < l.length), w.cell? ⟨g, k, none⟩ = some (.int .i64 l[k])
theorem IntR.below {w w' : World} {g : Nat} {l : List Int} (h : IntR w g l) (k : Below w.heap.size w w') : IntR w' g l := fun i hi => (k.cell (World.block_lt_of_cell? _ _ (h i hi))).trans (h i hi)
theorem intR_new (w : World) (a b c d : Int) (t : TypeId) (g : Nat) (hg : g = w.heap.size) : IntR (w.alloc (.cells #[.int .i64 a, .int .i64 b, .int .i64 c, .int .i64 d] t)) g [a, b, c, d] := by
  subst hg
  intro k hk
  match k, hk with
  | 0, _ => simp
  | 1, _ => simp
  | 2, _ => simp
  | 3, _ => simp
theorem side_pts (x y h : Int) : ∀ k (h1 : k < 4), [x, x - h, x + h, x][k]'h1 = x + ((sides4 h)[k]'h1).1 ∧ [y - h, y, y, y + h][k]'h1 = y + ((sides4 h)[k]'h1).2 := fun k h1 => by
  match k, h1 with
  | 0, _ => exact ⟨by simp [sides4], by simp [sides4]; omega⟩
  | 1, _ => exact ⟨by simp [sides4]; omega, by simp [sides4]⟩
  | 2, _ => exact ⟨by simp [sides4], by simp [sides4]⟩
  | 3, _ => exact ⟨by simp [sides4], by simp [sides4]⟩
set_option maxRecDepth 100000 in
set_option maxHeartbeats 4000000 in
theorem l05Around_any (n : Nat) (A : Option Addr) (c : Nat) (xs : List Nat) (p : Nat) (x y h : Int) (w : World) (hA : FRd w A xs) (hn : n ≤ 17) (hx : xs.length = n * n) (sb : BoxS w p n n A xs.length c)
    (bx : 0 ≤ x ∧ x ≤ 16) (bY : 0 ≤ y ∧ y ≤ 16) (bh : 0 ≤ h ∧ h ≤ 16) :
    Calls Try.prog 79 #[.pointer (some ⟨p, 0, none⟩), .int .i64 x, .int .i64 y, .int .i64 h] w fun e w' => ∃ s k, e = .returned (.tuple #[.float .f32 s, .int .i64 (k : Nat)]) ∧ (cn .f32 s, k) = arS n (cl xs) x y (sides4 h) (0, 0) ∧ Below w.heap.size w w' := by
  obtain ⟨x0, x1⟩ := bx
  obtain ⟨y0, y1⟩ := bY
  obtain ⟨h0, h1⟩ := bh
  have hn0 : (n : Int) ≤ 17 := by omega
  have HX := Lib.hid hx
  clear hx
  obtain ⟨w1, hw1⟩ : ∃ w1, w1 = w.alloc (.cells #[.int .i64 x, .int .i64 (x - h), .int .i64 (x + h), .int .i64 x] 2) := ⟨_, rfl⟩
  obtain ⟨w2, hw2⟩ : ∃ w2, w2 = w1.alloc (.cells #[.int .i64 (y - h), .int .i64 y, .int .i64 y, .int .i64 (y + h)] 2) := ⟨_, rfl⟩
  have k1 : Below w.heap.size w w1 := by rw [hw1]; exact below_alloc _ _
  have z1 : w1.heap.size = w.heap.size + 1 := by rw [hw1]; simp
  have k2 : Below w1.heap.size w1 w2 := by rw [hw2]; exact below_alloc _ _
  have r1 : IntR w1 w.heap.size [x, x - h, x + h, x] := by rw [hw1]; exact intR_new _ _ _ _ _ _ _ rfl
  have r2 : IntR w2 (w.heap.size + 1) [y - h, y, y, y + h] := by rw [hw2]; exact intR_new _ _ _ _ _ _ _ z1.symm
  have r1 := r1.below k2
  have K := Below.step k1 k2
  have sb := (sb.below k1).below k2
  have hA := Rd.below (Rd.below hA k1) k2
  go_enter Try.func79, Try.ntmps79
  go_wp2_with fail
  rw [← hw1, ← hw2]
  clear hw1 hw2 k1 k2 z1
  go_loopw [10, 11, 35] (fun s q i wr => ∃ (k sm kk : Nat), k ≤ 4 ∧ i = .int .i64 k ∧ s = .float .f32 sm ∧ q = .int .i64 kk ∧ kk ≤ k ∧ Below w2.heap.size w2 wr ∧ Hid (arS n (cl xs) x y ((sides4 h).drop k) (cn .f32 sm, kk) = arS n (cl xs) x y (sides4 h) (0, 0))) (fun _ _ i _ => 4 - (intOf i).toNat)
  case atStart => exact ⟨0, 0, 0, Nat.zero_le _, rfl, rfl, rfl, Nat.le_refl _, Below.refl _ _, Lib.hid rfl⟩
  case round =>
    obtain ⟨k, sm, kk, hk, rfl, rfl, rfl, hkk, hb, HR⟩ := hrel
    by_cases hlt : k < 4
    · have hkl : k < (sides4 h).length := hlt
      obtain ⟨s_, s0, s1, s2⟩ := sb.below hb
      have e1 := (r1.below hb) k hlt
      have e2 := (r2.below hb) k hlt
      obtain ⟨p1, p2⟩ := side_pts x y h k hlt
      rw [p1] at e1
      rw [p2] at e2
      clear p1 p2
      have hki : (k : Int) < 4 := by omega
      have hd : -16 ≤ ((sides4 h)[k]'hkl).1 ∧ ((sides4 h)[k]'hkl).1 ≤ 16 ∧ -16 ≤ ((sides4 h)[k]'hkl).2 ∧ ((sides4 h)[k]'hkl).2 ≤ 16 := by
        have : ∀ d ∈ sides4 h, -16 ≤ d.1 ∧ d.1 ≤ 16 ∧ -16 ≤ d.2 ∧ d.2 ≤ 16 := by
          intro d hd
          simp only [sides4, List.mem_cons, List.not_mem_nil, or_false] at hd
          rcases hd with rfl | rfl | rfl | rfl <;> simp <;> omega
        exact this _ (List.getElem_mem hkl)
      obtain ⟨q1, q2, q3, q4⟩ := hd
      have HD : Hid (arS n (cl xs) x y ((sides4 h)[k]'hkl :: (sides4 h).drop (k + 1)) (cn .f32 sm, kk) = arS n (cl xs) x y (sides4 h) (0, 0)) := Lib.hid (by rw [← HR.out, List.drop_eq_getElem_cons hkl])
      clear HR
      have bX : -16 ≤ x + ((sides4 h)[k]'hkl).1 ∧ x + ((sides4 h)[k]'hkl).1 ≤ 32 := by omega
      have bY : -16 ≤ y + ((sides4 h)[k]'hkl).2 ∧ y + ((sides4 h)[k]'hkl).2 ≤ 32 := by omega
      cases hin : inb n (x + ((sides4 h)[k]'hkl).1) (y + ((sides4 h)[k]'hkl).2)
      · have HN : Hid (arS n (cl xs) x y ((sides4 h).drop (k + 1)) (cn .f32 sm, kk) = arS n (cl xs) x y (sides4 h) (0, 0)) := Lib.hid (by rw [← HD.out, arS_out hin])
        clear HD
        generalize x + ((sides4 h)[k]'hkl).1 = X at *
        generalize y + ((sides4 h)[k]'hkl).2 = Y at *
        by_cases hx1 : 0 ≤ X ∧ X ≤ (n : Int) - 1
        · have hy1 : ¬ (0 ≤ Y ∧ Y ≤ (n : Int) - 1) := fun h => by
            unfold inb at hin
            rw [decide_eq_true hx1.1, decide_eq_true hx1.2, decide_eq_true h.1, decide_eq_true h.2] at hin
            cases hin
          clear q1 q2 q3 q4
          go_wp2_with fail
          go_quiet ((first | (go_at_call 43; exact Calls.quiet_of_same (in_yes _ _ _ _ (by omega))) | (go_at_call 43; exact Calls.quiet_of_same (in_no _ _ _ _ (by omega)))))
          go_wp2
          refine ⟨⟨k + 1, sm, kk, by omega, by go_num, rfl, rfl, by omega, below_drewN hb _, HN⟩, ?_⟩
          simp [intOf]
          omega
        · clear q1 q2 q3 q4
          go_wp2_with fail
          go_quiet ((first | (go_at_call 43; exact Calls.quiet_of_same (in_no _ _ _ _ (by omega)))))
          go_wp2
          refine ⟨⟨k + 1, sm, kk, by omega, by go_num, rfl, rfl, by omega, below_drewN hb _, HN⟩, ?_⟩
          simp [intOf]
          omega
      · have HN : Hid (arS n (cl xs) x y ((sides4 h).drop (k + 1)) (fop .add .f32 (cn .f32 sm) ((cl xs).getD ((y + ((sides4 h)[k]'hkl).2) * n + x + ((sides4 h)[k]'hkl).1).toNat 0), kk + 1) = arS n (cl xs) x y (sides4 h) (0, 0)) := Lib.hid (by rw [← HD.out, arS_in hin])
        rw [Int.add_assoc _ x] at HN
        clear HD q1 q2 q3 q4
        generalize x + ((sides4 h)[k]'hkl).1 = X at *
        generalize y + ((sides4 h)[k]'hkl).2 = Y at *
        obtain ⟨i0, i1, i2, i3⟩ | hbad := idx_in hin
        rotate_left
        · omega
        have i1' : Y * n + X < xs.length := by rw [HX.out]; omega
        obtain ⟨j, hj⟩ : ∃ j : Nat, Y * n + X = j := ⟨(Y * n + X).toNat, by omega⟩
        have hjl : j < xs.length := by omega
        rw [hj] at HN
        have HN : Hid (arS n (cl xs) x y ((sides4 h).drop (k + 1)) (fop .add .f32 (cn .f32 sm) (cn .f32 xs[j]), kk + 1) = arS n (cl xs) x y (sides4 h) (0, 0)) := Lib.hid (by rw [← HN.out, Int.toNat_natCast, getD_cl hjl])
        unfold inb at hin
        simp only [Bool.and_eq_true, decide_eq_true_eq] at hin
        obtain ⟨⟨hx1, hx2⟩, hy1, hy2⟩ := hin
        have hAr : FRd wr A xs := Rd.below hA hb
        obtain ⟨b, o, rfl, hb2, hc⟩ := hAr.at_ hjl
        generalize xs[j] = v at hc HN
        go_wp2_with fail
        go_quiet ((first | (go_at_call 43; exact Calls.quiet_of_same (in_yes _ _ _ _ (by omega)))))
        go_wp2
        have hm1 : IntKind.i64.wrap (Y * n) = Y * n := IntWalk.i64_in _ (by omega)
        have hm2 : IntKind.i64.wrap (j : Int) = j := IntWalk.i64_in _ (by omega)
        have hj1 : (j : Int) < xs.length := by omega
        have hj0 : (0 : Int) ≤ j := by omega
        refine wp_region_still_tail 21 (by kernel_rfl) (by kernel_rfl) ?_
        simp only [List.take_succ_cons, List.take_zero, List.drop_succ_cons, List.drop_zero]
        change wpStill _ _ (wr.drewN nq).drew (fun a' => wpList _ _ _ _ a' (wr.drewN nq).drew) _ _
        obtain ⟨wd, hwd⟩ : ∃ wd, wd = (wr.drewN nq).drewN 1 := ⟨_, rfl⟩
        have s0 : wd.cell? ⟨p, 0, none⟩ = some (.int .i64 n) := by rw [hwd]; exact s0
        have s2 : wd.cell? ⟨p, 2, none⟩ = some (.slice (some ⟨b, o, none⟩) xs.length c) := by rw [hwd]; exact s2
        have e1 : wd.cell? ⟨w.heap.size, k, none⟩ = some (.int .i64 X) := by rw [hwd]; exact e1
        have e2 : wd.cell? ⟨w.heap.size + 1, k, none⟩ = some (.int .i64 Y) := by rw [hwd]; exact e2
        have hc : wd.cell? ⟨b, o + j, none⟩ = some (.float .f32 v) := by rw [hwd]; exact hc
        have hbd : Below w2.heap.size w2 wd := by rw [hwd]; exact below_drewN (below_drewN hb _) _
        rw [show (wr.drewN nq).drew = wd from hwd.symm]
        clear hwd
        have hd0 : wd.drewN 0 = wd := rfl
        repeat still_step
        refine wpStill_nil ?_
        go_wp2
        refine ⟨⟨k + 1, _, kk + 1, by omega, by go_num, rfl, by go_num, by omega, below_drewN hbd _, by rw [cn_fres]; exact HN⟩, ?_⟩
        simp [intOf]
        omega
    · obtain rfl : k = 4 := by omega
      go_wp2
      go_ret2
      exact ⟨sm, kk, rfl, by rw [← HR.out]; rfl, K.trans (hb.mono K.size)⟩
end Go.Proofs.Ytenepnbickpcjaa
