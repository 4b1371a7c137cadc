/- DiamondSheet, the reference's side. -/
import Derived.Test.YtenepnbickpcjaaDiaI
import Derived.Deep.RegionWith
namespace Go.Proofs.Ytenepnbickpcjaa
open Go.RowKit

theorem least_any (x : Nat) (w : World) : Calls Try.prog 75 #[.float .f32 x] w fun e w' => e = .returned (.bool (finB (cn .f32 x) && geB .f32 (cn .f32 x) (cn .f32 0))) ∧ ∃ n, w' = w.drewN n := by
  cases hf : finB (cn .f32 x)
  · go_enter Try.func75, Try.ntmps75
    go_wp2_with fail
    refine (l01Finite_any x _).mono ?_
    rintro e w1 ⟨rfl, n, rfl⟩
    rw [hf]
    go_wp2
    go_ret
    exact ⟨rfl, n, rfl⟩
  · cases hg : geB .f32 (cn .f32 x) (cn .f32 0)
    · have h' := hg
      unfold geB at h'
      go_enter Try.func75, Try.ntmps75
      go_wp2_with fail
      refine (l01Finite_any x _).mono ?_
      rintro e w1 ⟨rfl, n, rfl⟩
      rw [hf]
      go_wp2
      go_ret
      exact ⟨by simp, n, rfl⟩
    · have h' := hg
      unfold geB at h'
      go_enter Try.func75, Try.ntmps75
      go_wp2_with fail
      refine (l01Finite_any x _).mono ?_
      rintro e w1 ⟨rfl, n, rfl⟩
      rw [hf]
      go_wp2
      go_ret
      exact ⟨by simp, n, rfl⟩
/-- The way and its half. -/
def Dh (n d h : Nat) : Prop := (d = 1 ∧ h = 0) ∨ (d = 2 * h ∧ (h = 1 ∨ h = 2 ∨ h = 4 ∨ h = 8) ∧ (n - 1) % (2 * h) = 0)
theorem Dh.next {n d h : Nat} (H : Dh n d h) (h1 : 1 ≤ h) : Dh n (d / 2) (h / 2) := by
  rcases H with ⟨_, e⟩ | ⟨rfl, e | e | e | e, hm⟩ <;> subst e
  · omega
  · exact .inl ⟨rfl, rfl⟩
  · exact .inr ⟨rfl, by omega, by omega⟩
  · exact .inr ⟨rfl, by omega, by omega⟩
  · exact .inr ⟨rfl, by omega, by omega⟩
theorem Dh.eq {n d h : Nat} (H : Dh n d h) (h1 : 1 ≤ h) : d = 2 * h := by
  rcases H with ⟨_, e⟩ | ⟨e, _⟩
  · omega
  · exact e
theorem Dh.one {n d h : Nat} (H : Dh n d h) (h1 : ¬ 1 ≤ h) : d = 1 := by
  rcases H with ⟨e, _⟩ | ⟨_, e, _⟩ <;> omega
theorem Dh.mid {n d h x : Nat} (H : Dh n d h) (h1 : 1 ≤ h) (hx : x % d = h) (hn : x < n) : h ≤ x ∧ x + h < n := by
  rcases H with ⟨_, e⟩ | ⟨rfl, e | e | e | e, hm⟩ <;> subst e <;> omega
theorem Dh.start {p : Int} {n m : Nat} (hs : (p = 1 ∧ n = 3) ∨ (p = 2 ∧ n = 5) ∨ (p = 3 ∧ n = 9) ∨ (p = 4 ∧ n = 17)) (hm : n - 1 = m) : Dh n m (m / 2) := by
  subst hm
  rcases hs with ⟨_, e⟩ | ⟨_, e⟩ | ⟨_, e⟩ | ⟨_, e⟩ <;> subst e <;> exact .inr ⟨by decide, by decide, by decide⟩
theorem corn_sum {n x y h s j0 j1 j2 j3 a0 a1 a2 a3 : Nat} {ys : List Nat} (hx : h ≤ x) (hx2 : x + h < n) (hy : h ≤ y) (hy2 : y + h < n)
    (e0 : ((y : Int) - h) * n + x - h = j0) (e1 : ((y : Int) - h) * n + x + h = j1) (e2 : ((y : Int) + h) * n + x - h = j2) (e3 : ((y : Int) + h) * n + x + h = j3)
    (g0 : (cl ys).getD j0 0 = cn .f32 a0) (g1 : (cl ys).getD j1 0 = cn .f32 a1) (g2 : (cl ys).getD j2 0 = cn .f32 a2) (g3 : (cl ys).getD j3 0 = cn .f32 a3)
    (hs : cn .f32 s = fop .add .f32 (fop .add .f32 (fop .add .f32 (fop .add .f32 (cn .f32 0) (cn .f32 a0)) (cn .f32 a1)) (cn .f32 a2)) (cn .f32 a3)) :
    (cn .f32 s, 4) = arS n (cl ys) x y (corn4 h) (0, 0) := by
  have ib : ∀ u v : Int, 0 ≤ u → u < n → 0 ≤ v → v < n → inb n u v = true := fun u v a b c d => by
    unfold inb
    simp only [Bool.and_eq_true, decide_eq_true_eq]
    omega
  have z0 : cn .f32 0 = 0 := by decide +kernel
  unfold corn4
  rw [arS_in (ib _ _ (by simp; omega) (by simp; omega) (by simp; omega) (by simp; omega)), arS_in (ib _ _ (by simp; omega) (by simp; omega) (by simp; omega) (by simp; omega)), arS_in (ib _ _ (by simp; omega) (by simp; omega) (by simp; omega) (by simp; omega)), arS_in (ib _ _ (by simp; omega) (by simp; omega) (by simp; omega) (by simp; omega))]
  show _ = (_, 4)
  rw [hs, z0, ← g0, ← g1, ← g2, ← g3]
  simp only [← Int.sub_eq_add_neg, e0, e1, e2, e3, Int.toNat_natCast]
set_option maxRecDepth 100000 in
set_option maxHeartbeats 8000000 in
theorem specD_yes (p : Int) (A : Option Addr) (c : Nat) (xs : List Nat) (rf fd : Nat) (sd : Int) (w : World) (hA : FRd w A xs) (hp : 1 ≤ p ∧ p ≤ 4) (hl : xs.length = 4) (hf : finL xs = true) (hr : finB (cn .f32 rf) = true) (hg : geB .f32 (cn .f32 rf) (cn .f32 0) = true) (hs : shareB (cn .f32 fd) = true) (h0 : 0 ≤ sd ∧ sd ≤ 2147483647) :
    Calls Try.prog 37 #[.int .i64 p, .slice A 4 c, .float .f32 rf, .float .f32 fd, .int .i64 sd] w (DiaR w p (cl xs) (cn .f32 rf) (cn .f32 fd) sd) := by
  have hf0 := Lib.hid hf
  obtain ⟨i0, hi, hz0, hz1, hz2⟩ := info_parts info.f32
  have hside := sideN_cases hp
  obtain ⟨p1, p4⟩ := hp
  obtain ⟨n, hn⟩ : ∃ n, n = sideN p := ⟨_, rfl⟩
  rw [← hn] at hside
  obtain ⟨N, hN⟩ : ∃ N, N = n * n := ⟨_, rfl⟩
  have e1 : wrap64 (wrap64 (2 ^ p.toNat) + 1) = (n : Int) := by
    rcases hside with ⟨rfl, h⟩ | ⟨rfl, h⟩ | ⟨rfl, h⟩ | ⟨rfl, h⟩ <;> rw [h] <;> decide +kernel
  have e2 : wrap64 ((n : Int) * n) = (N : Int) := by
    rcases hside with ⟨_, h⟩ | ⟨_, h⟩ | ⟨_, h⟩ | ⟨_, h⟩ <;> rw [hN, h] <;> decide +kernel
  have hn3 : 3 ≤ n ∧ n ≤ 17 ∧ 9 ≤ N ∧ N ≤ 289 := by
    rcases hside with ⟨_, h⟩ | ⟨_, h⟩ | ⟨_, h⟩ | ⟨_, h⟩ <;> rw [hN, h] <;> decide
  obtain ⟨hn3, hn17, hN9, hN289⟩ := hn3
  have HN := Lib.hid hN
  have HS := Lib.hid hside
  have Hn := Lib.hid hn
  clear hN hside hn
  obtain ⟨b0, o0, rfl, hb0, _⟩ := hA.at_ (k := 0) (by omega)
  obtain ⟨s0, s1⟩ := h0
  have hg' := hg
  unfold geB at hg'
  obtain ⟨w0, hw0⟩ : ∃ w0, w0 = w.alloc (.cells #[.int .i64 0, .int .i64 0, .slice none 0 0] 33) := ⟨_, rfl⟩
  have k0 : Below w.heap.size w w0 := by rw [hw0]; exact below_alloc _ _
  have rb : BoxS w0 w.heap.size 0 0 none 0 0 := by rw [hw0]; exact boxS_new _ _ _ _ _ _ _ _ rfl
  have rf_ : ∀ i, w0.frozen? ⟨w.heap.size, i, none⟩ = false := by rw [hw0]; intro i; simp
  have hA1 : FRd w0 (some ⟨b0, o0, none⟩) xs := Rd.below hA k0
  go_enter Try.func37, Try.ntmps37
  go_wp2_with fail
  rw [← hw0]
  clear hw0
  refine (in_any _ _ _ _).mono ?_
  rintro e w1 ⟨rfl, rfl⟩
  rw [decide_eq_true p1, decide_eq_true p4]
  go_wp2_with fail
  have AF := l02Finite_any (some ⟨b0, o0, none⟩) c xs w0 hA1 (by rw [hl]; decide)
  rw [hl, hf] at AF
  refine AF.mono ?_
  rintro e w1 ⟨rfl, n1, rfl⟩
  clear AF
  go_wp2_with fail
  refine (least_any rf _).mono ?_
  rintro e w2 ⟨rfl, n2, rfl⟩
  rw [hr, hg]
  go_wp2_with fail
  refine (share_any fd _).mono ?_
  rintro e w2 ⟨rfl, rfl⟩
  rw [hs]
  go_wp2_with fail
  refine (l05Seed_any sd _).mono ?_
  rintro e w2 ⟨rfl, rfl⟩
  rw [decide_eq_true s0, decide_eq_true s1]
  go_wp2_with (first | (at_make; refine wpList_make_full _ rfl _ _ 28 rfl w0.heap.size 22 i0 (.float .f32 0) 1 Try.underlying28 hi hz0 hz1 .i64 .i64 (N : Int) (N : Int) N (by simp [Act.eval, e1, e2]) (by simp [Act.eval, e1, e2]) rfl rfl (by rw [hz2]; omega) (by unfold maxLen; omega) (Nat.le_refl _) ?_))
  intro w1 hown hgrow
  have k01 : Below w0.heap.size w0 w1 := (below_drewN (Below.refl _ _) (n1 + n2)).grown hgrow (Nat.le_refl _) (fun k h => by cases h)
  go_wp2
  obtain ⟨w2, hw2⟩ : ∃ w2, w2 = w1.alloc (.cells #[.int .i64 n, .int .i64 n, .slice (some ⟨w0.heap.size, 0, none⟩) N N] 33) := ⟨_, rfl⟩
  have k2 : Below w1.heap.size w1 w2 := by rw [hw2]; exact below_alloc _ _
  have sb : BoxS w2 w1.heap.size n n (some ⟨w0.heap.size, 0, none⟩) N N := by rw [hw2]; exact boxS_new _ _ _ _ _ _ _ _ rfl
  rw [← hw2]
  clear hw2
  have K02 : Below w0.heap.size w0 w2 := Below.step k01 k2
  have hA2 : FRd w2 (some ⟨b0, o0, none⟩) xs := Rd.below hA1 K02
  have own : OwnS w0.heap.size w2 (some ⟨w0.heap.size, 0, none⟩) ((List.replicate N 0).map fv) := by
    have h := OwnS.below (OwnS.of_own hown) k2
    rw [made_f32] at h
    exact h
  have hz : w0.heap.size < w1.heap.size := own_lt hown w0.heap.size ⟨0, rfl⟩
  have hzw : w.heap.size < w0.heap.size := rb.lt
  have rb2 := rb.below K02
  have rf2 : ∀ i, w2.frozen? ⟨w.heap.size, i, none⟩ = false := fun i => (K02.frozen (by exact hzw)).trans (rf_ i)
  have K2 := Below.step k0 K02
  have hb0' : b0 < w0.heap.size := by obtain ⟨b', o', e, h, _⟩ := hA1.at_ (k := 0) (by omega); injection e with e; injection e with e1 e2; omega
  clear hown hgrow k01 k2 hA1 rb rf_ k0 K02
  have RB := Lib.hid (And.intro rb2 (And.intro rf2 K2))
  clear rb2 rf2 K2
  obtain ⟨m1, hm1⟩ : ∃ m1 : Nat, n - 1 = m1 := ⟨_, rfl⟩
  obtain ⟨m2, hm2⟩ : ∃ m2 : Nat, m1 * n = m2 := ⟨_, rfl⟩
  obtain ⟨m3, hm3⟩ : ∃ m3 : Nat, N - 1 = m3 := ⟨_, rfl⟩
  have t1 : (n : Int) - 1 = m1 := by omega
  have t2 : (m1 : Int) * n = m2 := by rw [← hm2]; push_cast; rfl
  have t2' : (n : Int) * m1 = m2 := by rw [Int.mul_comm]; exact t2
  have t3 : (N : Int) - 1 = m3 := by omega
  have t4 : (n : Int) * n = N := by rw [HN.out]; push_cast; rfl
  have u2 : m2 < N := by
    rw [← hm2, HN.out, ← hm1]
    exact Nat.mul_lt_mul_of_pos_right (by omega) (by omega)
  have v1 : IntKind.i64.wrap (m1 : Int) = m1 := IntWalk.i64_in _ (by omega)
  have v2 : IntKind.i64.wrap (m2 : Int) = m2 := IntWalk.i64_in _ (by omega)
  have v3 : IntKind.i64.wrap (m3 : Int) = m3 := IntWalk.i64_in _ (by omega)
  have v4 : IntKind.i64.wrap (N : Int) = N := IntWalk.i64_in _ (by omega)
  have i1 : (m1 : Int) < N := by
    have : n ≤ N := by rw [HN.out]; exact Nat.le_mul_of_pos_left n (by omega)
    omega
  have i2 : (m2 : Int) < N := by omega
  have i3 : (m3 : Int) < N := by omega
  have i0 : (0 : Int) < N := by omega
  have rd : ∀ k (h : k < xs.length), w2.cell? ⟨b0, o0 + k, none⟩ = some (.float .f32 xs[k]) := fun k h => by
    obtain ⟨b', o', e', hb, a1⟩ := hA2.at_ h
    injection e' with e'
    injection e' with e1' e2'
    subst e1'; subst e2'
    exact a1
  have a0 := rd 0 (by omega)
  have a1 := rd 1 (by omega)
  have a2 := rd 2 (by omega)
  have a3 := rd 3 (by omega)
  obtain ⟨s_, sb0, sb1, sb2⟩ := sb
  rw [Nat.add_zero] at a0
  clear rd
  have HXS := Lib.hid (cl_four xs hl)
  generalize xs[0] = x0 at a0 HXS
  generalize xs[1] = x1 at a1 HXS
  generalize xs[2] = x2 at a2 HXS
  generalize xs[3] = x3 at a3 HXS
  have hN0 : 0 < N := by omega
  have l1 : 0 < m1 := by omega
  have l2 : m1 < m2 := by
    have : m1 * 3 ≤ m1 * n := Nat.mul_le_mul_left _ hn3
    omega
  have l3 : m2 < m3 := by
    have h1 : m2 = N - n := by rw [← hm2, ← hm1, HN.out, Nat.sub_mul, Nat.one_mul]
    have h2 : n ≤ N := by rw [HN.out]; exact Nat.le_mul_of_pos_left n (by omega)
    omega
  have g1 : m1 ≠ 0 := by omega
  have g2 : m2 ≠ m1 := by omega
  have g3 : m2 ≠ 0 := by omega
  have g4 : m3 ≠ m2 := by omega
  have g5 : m3 ≠ m1 := by omega
  have g6 : m3 ≠ 0 := by omega
  have g1' := g1.symm
  have g2' := g2.symm
  have g3' := g3.symm
  have g4' := g4.symm
  have g5' := g5.symm
  have g6' := g6.symm
  have S5 : ∀ w', Keep (fun k => k = w0.heap.size) w2 w' → w'.cell? ⟨w1.heap.size, 2, none⟩ = some (.slice (some ⟨w0.heap.size, 0, none⟩) N N) ∧ w'.cell? ⟨b0, o0, none⟩ = some (.float .f32 x0) ∧ w'.cell? ⟨b0, o0 + 1, none⟩ = some (.float .f32 x1) ∧ w'.cell? ⟨b0, o0 + 2, none⟩ = some (.float .f32 x2) ∧ w'.cell? ⟨b0, o0 + 3, none⟩ = some (.float .f32 x3) := fun w' k =>
    ⟨(k.cell (p := ⟨w1.heap.size, 2, none⟩) s_ (by show ¬ w1.heap.size = w0.heap.size; omega)).trans sb2, (k.cell (p := ⟨b0, o0, none⟩) (by exact World.block_lt_of_cell? _ _ a0) (by show ¬ b0 = w0.heap.size; omega)).trans a0, (k.cell (p := ⟨b0, o0 + 1, none⟩) (by exact World.block_lt_of_cell? _ _ a1) (by show ¬ b0 = w0.heap.size; omega)).trans a1, (k.cell (p := ⟨b0, o0 + 2, none⟩) (by exact World.block_lt_of_cell? _ _ a2) (by show ¬ b0 = w0.heap.size; omega)).trans a2, (k.cell (p := ⟨b0, o0 + 3, none⟩) (by exact World.block_lt_of_cell? _ _ a3) (by show ¬ b0 = w0.heap.size; omega)).trans a3⟩
  have S5 := Lib.hid S5
  have SB := Lib.hid (BoxS.mk s_ sb0 sb1 sb2)
  clear g1 g2 g3 g4 g5 g6 g1' g2' g3' g4' g5' g6' a0 a1 a2 a3 sb2
  have K : Hid (Keep (fun k => k = w0.heap.size) w2 w2) := Lib.hid (Keep.refl _ _)
  obtain ⟨y0, hy0⟩ : ∃ y, y = List.replicate N 0 := ⟨_, rfl⟩
  rw [← hy0] at own
  have hyl : y0.length = N := by rw [hy0]; simp
  have HY0 := Lib.hid hy0
  clear hy0
  obtain ⟨y1, hy1⟩ : ∃ y, y = y0.set 0 x0 := ⟨_, rfl⟩
  have hyl1 : y1.length = N := by rw [hy1, List.length_set]; exact hyl
  have HY1 := Lib.hid hy1
  clear hy1
  go_wp2_with fail
  go_cut [] from 64 to 69 (fun wx => OwnS w0.heap.size wx (some ⟨w0.heap.size, 0, none⟩) (y1.map fv) ∧ Hid (Keep (fun k => k = w0.heap.size) w2 wx))
  case first =>
    have hj : 0 < y0.length := by rw [hyl]; exact hN0
    obtain ⟨cj, fj⟩ := own_at own hj
    obtain ⟨s2, t0, t1, t2, t3⟩ := S5.out _ K.out
    generalize y0[0] = vo at cj
    have O : Hid (∀ n, OwnS w0.heap.size (((w2).setCell ⟨w0.heap.size, 0, none⟩ (.float .f32 x0)).drewN n) (some ⟨w0.heap.size, 0, none⟩) (y1.map fv)) := Lib.hid (fun n => by rw [HY1.out]; exact (OwnS.set0 own hj).drewN n)
    have K' : Hid (∀ n, Keep (fun k => k = w0.heap.size) w2 (((w2).setCell ⟨w0.heap.size, 0, none⟩ (.float .f32 x0)).drewN n)) := Lib.hid (fun n => ((K.out).setCell (.inl rfl) _).drewN n)
    go_region_with (fail)
    all_goals
      go_wp2
      go_meet
      exact ⟨O.out 1, Lib.hid (K'.out 1)⟩
  case rest =>
    clear own K
    obtain ⟨own, K⟩ := hcut
    obtain ⟨y2, hy2⟩ : ∃ y, y = y1.set m1 x1 := ⟨_, rfl⟩
    have hyl2 : y2.length = N := by rw [hy2, List.length_set]; exact hyl1
    have HY2 := Lib.hid hy2
    clear hy2
    go_wp2_with fail
    go_cut [] from 70 to 77 (fun wx => OwnS w0.heap.size wx (some ⟨w0.heap.size, 0, none⟩) (y2.map fv) ∧ Hid (Keep (fun k => k = w0.heap.size) w2 wx))
    case first =>
      have hj : m1 < y1.length := by rw [hyl1]; exact (show m1 < N by omega)
      obtain ⟨cj, fj⟩ := own_at own hj
      obtain ⟨s2, t0, t1, t2, t3⟩ := S5.out _ K.out
      generalize y1[m1] = vo at cj
      have O : Hid (∀ n, OwnS w0.heap.size (((wc).setCell ⟨w0.heap.size, m1, none⟩ (.float .f32 x1)).drewN n) (some ⟨w0.heap.size, 0, none⟩) (y2.map fv)) := Lib.hid (fun n => by rw [HY2.out]; exact (OwnS.set0 own hj).drewN n)
      have K' : Hid (∀ n, Keep (fun k => k = w0.heap.size) w2 (((wc).setCell ⟨w0.heap.size, m1, none⟩ (.float .f32 x1)).drewN n)) := Lib.hid (fun n => ((K.out).setCell (.inl rfl) _).drewN n)
      go_region_with (fail)
      all_goals
        go_wp2
        go_meet
        exact ⟨O.out 1, Lib.hid (K'.out 1)⟩
    case rest =>
      clear own K
      obtain ⟨own, K⟩ := hcut
      obtain ⟨y3, hy3⟩ : ∃ y, y = y2.set m2 x2 := ⟨_, rfl⟩
      have hyl3 : y3.length = N := by rw [hy3, List.length_set]; exact hyl2
      have HY3 := Lib.hid hy3
      clear hy3
      go_wp2_with fail
      go_cut [] from 78 to 87 (fun wx => OwnS w0.heap.size wx (some ⟨w0.heap.size, 0, none⟩) (y3.map fv) ∧ Hid (Keep (fun k => k = w0.heap.size) w2 wx))
      case first =>
        have hj : m2 < y2.length := by rw [hyl2]; exact (show m2 < N by omega)
        obtain ⟨cj, fj⟩ := own_at own hj
        obtain ⟨s2, t0, t1, t2, t3⟩ := S5.out _ K.out
        generalize y2[m2] = vo at cj
        have O : Hid (∀ n, OwnS w0.heap.size (((wc).setCell ⟨w0.heap.size, m2, none⟩ (.float .f32 x2)).drewN n) (some ⟨w0.heap.size, 0, none⟩) (y3.map fv)) := Lib.hid (fun n => by rw [HY3.out]; exact (OwnS.set0 own hj).drewN n)
        have K' : Hid (∀ n, Keep (fun k => k = w0.heap.size) w2 (((wc).setCell ⟨w0.heap.size, m2, none⟩ (.float .f32 x2)).drewN n)) := Lib.hid (fun n => ((K.out).setCell (.inl rfl) _).drewN n)
        go_region_with (fail)
        all_goals
          go_wp2
          go_meet
          exact ⟨O.out 1, Lib.hid (K'.out 1)⟩
      case rest =>
        clear own K
        obtain ⟨own, K⟩ := hcut
        obtain ⟨y4, hy4⟩ : ∃ y, y = y3.set m3 x3 := ⟨_, rfl⟩
        have hyl4 : y4.length = N := by rw [hy4, List.length_set]; exact hyl3
        have HY4 := Lib.hid hy4
        clear hy4
        go_wp2_with fail
        go_cut [] from 88 to 97 (fun wx => OwnS w0.heap.size wx (some ⟨w0.heap.size, 0, none⟩) (y4.map fv) ∧ Hid (Keep (fun k => k = w0.heap.size) w2 wx))
        case first =>
          have hj : m3 < y3.length := by rw [hyl3]; exact (show m3 < N by omega)
          obtain ⟨cj, fj⟩ := own_at own hj
          obtain ⟨s2, t0, t1, t2, t3⟩ := S5.out _ K.out
          generalize y3[m3] = vo at cj
          have O : Hid (∀ n, OwnS w0.heap.size (((wc).setCell ⟨w0.heap.size, m3, none⟩ (.float .f32 x3)).drewN n) (some ⟨w0.heap.size, 0, none⟩) (y4.map fv)) := Lib.hid (fun n => by rw [HY4.out]; exact (OwnS.set0 own hj).drewN n)
          have K' : Hid (∀ n, Keep (fun k => k = w0.heap.size) w2 (((wc).setCell ⟨w0.heap.size, m3, none⟩ (.float .f32 x3)).drewN n)) := Lib.hid (fun n => ((K.out).setCell (.inl rfl) _).drewN n)
          go_region_with (fail)
          all_goals
            go_wp2
            go_meet
            exact ⟨O.out 1, Lib.hid (K'.out 1)⟩
        case rest =>
          clear own K
          obtain ⟨own, K⟩ := hcut
          -- LOOPS
          go_wp2_with fail
          have k3 := K.out
          have sb3 := SB.out.keep k3 (by show ¬ w1.heap.size = w0.heap.size; omega)
          have rb3 := RB.out.1.keep k3 (by show ¬ w.heap.size = w0.heap.size; omega)
          have rf3 : ∀ i, wc.frozen? ⟨w.heap.size, i, none⟩ = false := fun i => (World.frozen?_of_block (w := w2) (k3.block w.heap.size RB.out.1.lt (by show ¬ w.heap.size = w0.heap.size; omega))).trans (RB.out.2.1 i)
          have K3 : Below w.heap.size w wc := k3.below RB.out.2.2 (by have := RB.out.1.lt; omega) (fun k h => by show w.heap.size ≤ k; rw [h]; omega)
          have hz3 : w0.heap.size < wc.heap.size := Nat.lt_of_lt_of_le (by omega) k3.size
          have hmn : Hid (n / 2 = m1 / 2) := Lib.hid (by rcases HS.out with ⟨_, h⟩ | ⟨_, h⟩ | ⟨_, h⟩ | ⟨_, h⟩ <;> omega)
          have hm8 : m1 / 2 ≤ 8 := by omega
          obtain ⟨T, hT⟩ : ∃ T, T = dhh n (cn .f32 fd) 9 ((m1 / 2 : Nat) : Int) (cn .f32 rf) (cl y4, sd) := ⟨_, rfl⟩
          have HT := Lib.hid hT
          have HTT : Hid (T = diaT p (cl xs) (cn .f32 rf) (cn .f32 fd) sd) := Lib.hid (by
            have e0 : cn .f32 0 = 0 := by decide +kernel
            have hd : cl y4 = dia0 n (cl xs) := by
              rw [HY4.out, HY3.out, HY2.out, HY1.out, HY0.out, cl_set, cl_set, cl_set, cl_set, HXS.out]
              unfold dia0 cl
              rw [List.map_replicate, e0, hm1, hm2, ← HN.out, hm3]
              rfl
            rw [hT, hd]
            unfold diaT
            rw [← Hn.out, ← hmn.out]
            rfl)
          have DH0 : Dh n m1 (m1 / 2) := Dh.start HS.out hm1
          have hm16 : m1 ≤ 16 := by omega
          have OWN := Lib.hid own
          have HYL := Lib.hid hyl4
          have c0' : N = N := rfl
          clear own K k3 hyl hyl1 hyl2 hyl3 hyl4 S5 SB hT HXS t1 t2 t2' t3 t4 u2 v1 v2 v3 v4 i1 i2 i3 i0 l1 l2 l3 e1 e2 hm1 hm2 hm3 hA2 c0'
          go_loopw [4, 15, 16] (fun sv rv dv wr => ∃ (f d h R : Nat) (sq : Int) (ys : List Nat), dv = .int .i64 (d : Int) ∧ rv = .float .f32 R ∧ sv = .int .i64 sq ∧ 0 ≤ sq ∧ sq ≤ 2147483647 ∧ d ≤ 16 ∧ Dh n d h ∧ h ≤ f ∧ ys.length = N ∧ OwnS w0.heap.size wr (some ⟨w0.heap.size, 0, none⟩) (ys.map fv) ∧ Keep (fun k => k = w0.heap.size) wc wr ∧ Hid (dhh n (cn .f32 fd) f h (cn .f32 R) (cl ys, sq) = T)) (fun _ _ dv _ => (intOf dv).toNat)
          case atStart => exact ⟨9, m1, m1 / 2, rf, sd, y4, rfl, rfl, rfl, s0, s1, hm16, DH0, by omega, HYL.out, OWN.out, Keep.refl _ _, Lib.hid HT.out.symm⟩
          case round =>
            clear OWN HYL HT DH0
            obtain ⟨f, d, h, R, sq, ys, rfl, rfl, rfl, q0, q1, hd16, DH, hf, hyl, hO, hK, HT⟩ := hrel
            by_cases hh : 1 ≤ h
            · obtain ⟨f, rfl⟩ : ∃ f', f = f' + 1 := ⟨f - 1, by omega⟩
              have hh1 : (1 : Int) ≤ h := by omega
              have hd2 := DH.eq hh
              have hdh : (1 : Int) < d := by omega
              have hdq : (d : Int) / 2 = h := by omega
              have h8 : h ≤ 8 := by omega
              have HD := Lib.hid hd2
              clear hd2
              have HT := Lib.hid ((dhh_go (n := n) (fd := cn .f32 fd) (f := f) (h := h) (r := cn .f32 R) (st := (cl ys, sq)) hh1).symm.trans HT.out)
              obtain ⟨wo, hwo⟩ : ∃ wo, wo = wr := ⟨_, rfl⟩
              rw [← hwo] at hO hK
              rw [← hwo]
              clear hwo
              go_wp2_with fail
              clear hdq
              go_loopw [4, 18] (fun sv yv wr => ∃ (f y : Nat) (sq1 : Int) (ys1 : List Nat), yv = .int .i64 (y : Int) ∧ sv = .int .i64 sq1 ∧ 0 ≤ sq1 ∧ sq1 ≤ 2147483647 ∧ y ≤ 33 ∧ y % d = h ∧ n ≤ y + f ∧ ys1.length = N ∧ OwnS w0.heap.size wr (some ⟨w0.heap.size, 0, none⟩) (ys1.map fv) ∧ Keep (fun k => k = w0.heap.size) wc wr ∧ Hid (dy1 n (cn .f32 R) h f y (cl ys1, sq1) = dy1 n (cn .f32 R) h 17 h (cl ys, sq))) (fun _ yv _ => n - (intOf yv).toNat)
              case atStart => exact ⟨17, h, sq, ys, rfl, rfl, q0, q1, by omega, by rw [HD.out]; exact Nat.mod_eq_of_lt (by omega), by omega, hyl, hO, hK, Lib.hid rfl⟩
              case round =>
                clear hO hK
                obtain ⟨f1, y, sq1, ys1, rfl, rfl, q0, q1, hy33, hym, hf1, hyl1, hO, hK, HY⟩ := hrel
                have HYM := Lib.hid hym
                clear hym
                by_cases hy : y < n
                · obtain ⟨f1, rfl⟩ : ∃ f', f1 = f' + 1 := ⟨f1 - 1, by omega⟩
                  have hyn : (y : Int) < n := by omega
                  have HY := Lib.hid ((dy1_go (n := n) (r := cn .f32 R) (h := h) (f := f1) (y := y) (st := (cl ys1, sq1)) hyn).symm.trans HY.out)
                  obtain ⟨my1, my2⟩ := DH.mid hh HYM.out hy
                  obtain ⟨wo, hwo⟩ : ∃ wo, wo = wr := ⟨_, rfl⟩
                  rw [← hwo] at hO hK
                  rw [← hwo]
                  clear hwo
                  go_wp2_with fail
                  go_loopw [4, 19] (fun sv xv wr => ∃ (f x : Nat) (sq2 : Int) (ys2 : List Nat), xv = .int .i64 (x : Int) ∧ sv = .int .i64 sq2 ∧ 0 ≤ sq2 ∧ sq2 ≤ 2147483647 ∧ x ≤ 33 ∧ x % d = h ∧ n ≤ x + f ∧ ys2.length = N ∧ OwnS w0.heap.size wr (some ⟨w0.heap.size, 0, none⟩) (ys2.map fv) ∧ Keep (fun k => k = w0.heap.size) wc wr ∧ Hid (dx1 n (cn .f32 R) h y f x (cl ys2, sq2) = dx1 n (cn .f32 R) h y 17 h (cl ys1, sq1))) (fun _ xv _ => n - (intOf xv).toNat)
                  case atStart => exact ⟨17, h, sq1, ys1, rfl, rfl, q0, q1, by omega, by rw [HD.out]; exact Nat.mod_eq_of_lt (by omega), by omega, hyl1, hO, hK, Lib.hid rfl⟩
                  case round =>
                    clear hO hK
                    obtain ⟨f2, x, sq2, ys2, rfl, rfl, q0, q1, hx33, hxm, hf2, hyl2, hO, hK, HX⟩ := hrel
                    have HXM := Lib.hid hxm
                    clear hxm
                    by_cases hx : x < n
                    · obtain ⟨f2, rfl⟩ : ∃ f', f2 = f' + 1 := ⟨f2 - 1, by omega⟩
                      have hxn : (x : Int) < n := by omega
                      have HX := Lib.hid ((dx1_go (n := n) (r := cn .f32 R) (h := h) (y := y) (f := f2) (x := x) (st := (cl ys2, sq2)) hxn).symm.trans HX.out)
                      obtain ⟨mx1, mx2⟩ := DH.mid hh HXM.out hx
                      have nb := nextI_bd sq2
                      obtain ⟨s_, b0_, b1_, b2_⟩ := sb3.keep hK (by show ¬ w1.heap.size = w0.heap.size; omega)
                      obtain ⟨P0, hP0⟩ : ∃ P0 : Nat, ((y : Int) - h) * n = P0 := ⟨(y - h) * n, by rw [Int.natCast_mul, Int.ofNat_sub my1]⟩
                      obtain ⟨P2, hP2⟩ : ∃ P2 : Nat, ((y : Int) + h) * n = P2 := ⟨(y + h) * n, by push_cast; rfl⟩
                      obtain ⟨PJ, hPJ⟩ : ∃ PJ : Nat, (y : Int) * n = PJ := ⟨y * n, by push_cast; rfl⟩
                      have ix := fun (u : Int) (a b : _) => idx_in (n := n) (a := (x : Int)) (b := u) (by unfold inb; simp only [Bool.and_eq_true, decide_eq_true_eq]; exact ⟨⟨by omega, by omega⟩, a, b⟩)
                      obtain ⟨_, w1_, w2_, _⟩ | hbad := ix ((y : Int) - h) (by omega) (by omega)
                      rotate_left
                      · omega
                      obtain ⟨_, w3_, w4_, _⟩ | hbad := ix ((y : Int) + h) (by omega) (by omega)
                      rotate_left
                      · omega
                      obtain ⟨_, w5_, w6_, _⟩ | hbad := ix (y : Int) (by omega) (by omega)
                      rotate_left
                      · omega
                      have n0 : P0 + n ≤ N := by rw [HN.out]; have : P0 = (y - h) * n := (by have := hP0; rw [← Int.ofNat_sub my1, ← Int.natCast_mul] at this; omega); rw [this]; have := Nat.mul_le_mul_right n (show y - h + 1 ≤ n by omega); rw [Nat.add_mul, Nat.one_mul] at this; exact this
                      have n2 : P2 + n ≤ N := by rw [HN.out]; have : P2 = (y + h) * n := (by have := hP2; rw [← Int.natCast_add, ← Int.natCast_mul] at this; omega); rw [this]; have := Nat.mul_le_mul_right n (show y + h + 1 ≤ n by omega); rw [Nat.add_mul, Nat.one_mul] at this; exact this
                      have nj : PJ + n ≤ N := by rw [HN.out]; have : PJ = y * n := (by have := hPJ; rw [← Int.natCast_mul] at this; omega); rw [this]; have := Nat.mul_le_mul_right n (show y + 1 ≤ n by omega); rw [Nat.add_mul, Nat.one_mul] at this; exact this
                      clear w1_ w2_ w3_ w4_ w5_ w6_ ix
                      obtain ⟨j0, hj0⟩ : ∃ j : Nat, (P0 : Int) + x - h = j := ⟨P0 + x - h, by omega⟩
                      obtain ⟨j1, hj1⟩ : ∃ j : Nat, (P0 : Int) + x + h = j := ⟨P0 + x + h, by omega⟩
                      obtain ⟨j2, hj2⟩ : ∃ j : Nat, (P2 : Int) + x - h = j := ⟨P2 + x - h, by omega⟩
                      obtain ⟨j3, hj3⟩ : ∃ j : Nat, (P2 : Int) + x + h = j := ⟨P2 + x + h, by omega⟩
                      obtain ⟨j, hj⟩ : ∃ j : Nat, (PJ : Int) + x = j := ⟨PJ + x, by omega⟩
                      have b0' : j0 < N := by omega
                      have b1' : j1 < N := by omega
                      have b2' : j2 < N := by omega
                      have b3' : j3 < N := by omega
                      have bj' : j < N := by omega
                      have c0' : (j0 : Int) < N := by omega
                      have c1' : (j1 : Int) < N := by omega
                      have c2' : (j2 : Int) < N := by omega
                      have c3' : (j3 : Int) < N := by omega
                      have cj' : (j : Int) < N := by omega
                      obtain ⟨d0, _⟩ := own_at hO (j := j0) (by omega)
                      obtain ⟨d1, _⟩ := own_at hO (j := j1) (by omega)
                      obtain ⟨d2, _⟩ := own_at hO (j := j2) (by omega)
                      obtain ⟨d3, _⟩ := own_at hO (j := j3) (by omega)
                      obtain ⟨dj, fj⟩ := own_at hO (j := j) (by omega)
                      have g0 := getD_cl (xs := ys2) (i := j0) (by omega)
                      have g1 := getD_cl (xs := ys2) (i := j1) (by omega)
                      have g2 := getD_cl (xs := ys2) (i := j2) (by omega)
                      have g3 := getD_cl (xs := ys2) (i := j3) (by omega)
                      generalize ys2[j0]'(by omega) = a0 at d0 g0
                      generalize ys2[j1]'(by omega) = a1 at d1 g1
                      generalize ys2[j2]'(by omega) = a2 at d2 g2
                      generalize ys2[j3]'(by omega) = a3 at d3 g3
                      generalize ys2[j]'(by omega) = vo at dj
                      have CS : Hid (∀ s, cn .f32 s = fop .add .f32 (fop .add .f32 (fop .add .f32 (fop .add .f32 (cn .f32 0) (cn .f32 a0)) (cn .f32 a1)) (cn .f32 a2)) (cn .f32 a3) → (cn .f32 s, 4) = arS n (cl ys2) x y (corn4 h) (0, 0)) := Lib.hid (fun s hs => corn_sum mx1 mx2 my1 my2 (by rw [hP0]; exact hj0) (by rw [hP0]; exact hj1) (by rw [hP2]; exact hj2) (by rw [hP2]; exact hj3) g0 g1 g2 g3 hs)
                      have HJ : Hid ((y : Int) * n + x = j) := Lib.hid (by rw [hPJ]; exact hj)
                      have HO := Lib.hid hO
                      have HK := Lib.hid hK
                      clear g0 g1 g2 g3 hO hK b0' b1' b2' b3'
                      go_wp2_with fail
                      obtain ⟨sm, hsm⟩ : ∃ sm, sm = fres .add .f32 (fres .add .f32 (fres .add .f32 (fres .add .f32 0 a0 wr) a1 (wr.drewN (fdr .add .f32 0 a0))) a2 (wr.drewN (fdr .add .f32 0 a0 + fdr .add .f32 (fres .add .f32 0 a0 wr) a1))) a3 (wr.drewN (fdr .add .f32 0 a0 + fdr .add .f32 (fres .add .f32 0 a0 wr) a1 + fdr .add .f32 (fres .add .f32 (fres .add .f32 0 a0 wr) a1 (wr.drewN (fdr .add .f32 0 a0))) a2)) := ⟨_, rfl⟩
                      rw [← hsm]
                      have ES := Lib.hid (CS.out sm (by rw [hsm]; simp only [cn_fres]))
                      clear hsm CS
                      refine (l05Next_any _ _ q0 q1).mono ?_
                      rintro e w4 ⟨rfl, hw4⟩
                      obtain ⟨N4, hN4⟩ : ∃ m, w4 = wr.drewN m := ⟨_, hw4.symm⟩
                      clear hw4
                      have HO : Hid (OwnS w0.heap.size w4 (some ⟨w0.heap.size, 0, none⟩) (ys2.map fv)) := Lib.hid (by rw [hN4]; exact HO.out.drewN _)
                      have HK : Hid (Keep (fun k => k = w0.heap.size) wc w4) := Lib.hid (by rw [hN4]; exact HK.out.drewN _)
                      have b2_ : w4.cell? ⟨w1.heap.size, 2, none⟩ = some (.slice (some ⟨w0.heap.size, 0, none⟩) N N) := by rw [hN4]; exact b2_
                      have dj : w4.cell? ⟨w0.heap.size, j, none⟩ = some (.float .f32 vo) := by rw [hN4]; exact dj
                      have fj : w4.frozen? ⟨w0.heap.size, j, none⟩ = false := by rw [hN4]; exact fj
                      clear hN4 d0 d1 d2 d3 c0' c1' c2' c3' hP0 hP2 hj0 hj1 hj2 hj3
                      go_wp2_with fail
                      have m1_ : IntKind.i64.wrap (PJ : Int) = PJ := IntWalk.i64_in _ (by omega)
                      have m2_ : IntKind.i64.wrap (j : Int) = j := IntWalk.i64_in _ (by omega)
                      have m3_ : (0 : Int) ≤ j := by omega
                      have px : Hid ((x : Int) + d = ((x + 2 * h : Nat) : Int)) := Lib.hid (by have := HD.out; omega)
                      have pm : Hid ((x + 2 * h) % d = h) := Lib.hid (by have e := HXM.out; rw [HD.out] at e ⊢; rw [Nat.add_mod_right]; exact e)
                      have p33 : x + 2 * h ≤ 33 := by omega
                      have pf : n ≤ x + 2 * h + f2 := by omega
                      have hjl : j < ys2.length := by rw [hyl2]; exact bj'
                      have HYL2 := Lib.hid hyl2
                      clear hyl2
                      first | refine wp_region_noPanic ?_ | skip
                      refine wp_region_held_drew (S := fun w' => w'.cell? ⟨w1.heap.size, 2, none⟩ = some (.slice (some ⟨w0.heap.size, 0, none⟩) N N)) (by kernel_rfl) (by exact b2_) (fun hHeld => ?_)
                      refine wpAnyH_take (i := 0) (oi := ?oi0A) (v := ?v0A) ?hi0A (by kernel_rfl) (by kernel_rfl) (by kernel_rfl) (fun _ _ _ h => h) (Or.inl ⟨?hw0A, ?hy0A⟩) hHeld ?rest0A
                      case hi0A => (simp only [List.getElem?_toArray, List.getElem?_cons_zero]; rfl)
                      case hw0A => (first | rfl | (simp [Region.wanted, yielded]; done))
                      case hy0A => (intro w hSw; (try dsimp only at hSw); go_simp; try first | with_reducible rfl | (refine ⟨?_, rfl⟩; with_reducible rfl))
                      try simp only [Act.put, List.setIfInBounds_toArray, List.set_cons_zero, List.set_cons_succ]
                      refine wpAnyH_take (i := 1) (oi := ?oi1A) (v := ?v1A) ?hi1A (by kernel_rfl) (by kernel_rfl) (by kernel_rfl) (fun _ _ _ h => h) (Or.inl ⟨?hw1A, ?hy1A⟩) hHeld ?rest1A
                      case hi1A => (simp only [List.getElem?_toArray, List.getElem?_cons_succ, List.getElem?_cons_zero]; rfl)
                      case hw1A => (first | rfl | (simp [Region.wanted, yielded]; done))
                      case hy1A => (intro w hSw; (try dsimp only at hSw); go_simp; try first | with_reducible rfl | (refine ⟨?_, rfl⟩; with_reducible rfl))
                      try simp only [Act.put, List.setIfInBounds_toArray, List.set_cons_zero, List.set_cons_succ]
                      refine wpAnyH_take (i := 2) (oi := ?oi2A) (v := ?v2A) ?hi2A (by kernel_rfl) (by kernel_rfl) (by kernel_rfl) (fun _ _ _ h => h) (Or.inl ⟨?hw2A, ?hy2A⟩) hHeld ?rest2A
                      case hi2A => (simp only [List.getElem?_toArray, List.getElem?_cons_succ, List.getElem?_cons_zero]; rfl)
                      case hw2A => (first | rfl | (simp [Region.wanted, yielded]; done))
                      case hy2A => (intro w hSw; (try dsimp only at hSw); go_simp; try first | with_reducible rfl | (refine ⟨?_, rfl⟩; with_reducible rfl))
                      try simp only [Act.put, List.setIfInBounds_toArray, List.set_cons_zero, List.set_cons_succ]
                      refine wpAnyH_take (i := 3) (oi := ?oi3A) (v := ?v3A) ?hi3A (by kernel_rfl) (by kernel_rfl) (by kernel_rfl) (fun _ _ _ h => h) (Or.inl ⟨?hw3A, ?hy3A⟩) hHeld ?rest3A
                      case hi3A => (simp only [List.getElem?_toArray, List.getElem?_cons_succ, List.getElem?_cons_zero]; rfl)
                      case hw3A => (first | rfl | (simp [Region.wanted, yielded]; done))
                      case hy3A => (intro w hSw; (try dsimp only at hSw); go_simp; try first | with_reducible rfl | (refine ⟨?_, rfl⟩; with_reducible rfl))
                      try simp only [Act.put, List.setIfInBounds_toArray, List.set_cons_zero, List.set_cons_succ]
                      refine wpAnyH_take (i := 4) (oi := ?oi4A) (v := ?v4A) ?hi4A (by kernel_rfl) (by kernel_rfl) (by kernel_rfl) (fun _ _ _ h => h) (Or.inl ⟨?hw4A, ?hy4A⟩) hHeld ?rest4A
                      case hi4A => (simp only [List.getElem?_toArray, List.getElem?_cons_succ, List.getElem?_cons_zero]; rfl)
                      case hw4A => (first | rfl | (simp [Region.wanted, yielded]; done))
                      case hy4A => (intro w hSw; (try dsimp only at hSw); go_simp; try first | with_reducible rfl | (refine ⟨?_, rfl⟩; with_reducible rfl))
                      try simp only [Act.put, List.setIfInBounds_toArray, List.set_cons_zero, List.set_cons_succ]
                      refine wpAnyH_take (i := 5) (oi := ?oi5A) (v := ?v5A) ?hi5A (by kernel_rfl) (by kernel_rfl) (by kernel_rfl) (fun _ _ _ h => h) (Or.inl ⟨?hw5A, ?hy5A⟩) hHeld ?rest5A
                      case hi5A => (simp only [List.getElem?_toArray, List.getElem?_cons_succ, List.getElem?_cons_zero]; rfl)
                      case hw5A => (first | rfl | (simp [Region.wanted, yielded]; done))
                      case hy5A => (intro w hSw; (try dsimp only at hSw); go_simp; try first | with_reducible rfl | (refine ⟨?_, rfl⟩; with_reducible rfl))
                      try simp only [Act.put, List.setIfInBounds_toArray, List.set_cons_zero, List.set_cons_succ]
                      refine wpAnyH_take (i := 6) (oi := ?oi6A) (v := ?v6A) ?hi6A (by kernel_rfl) (by kernel_rfl) (by kernel_rfl) (fun _ _ _ h => h) (Or.inl ⟨?hw6A, ?hy6A⟩) hHeld ?rest6A
                      case hi6A => (simp only [List.getElem?_toArray, List.getElem?_cons_succ, List.getElem?_cons_zero]; rfl)
                      case hw6A => (first | rfl | (simp [Region.wanted, yielded]; done))
                      case hy6A => (intro w hSw; (try dsimp only at hSw); go_simp; try first | with_reducible rfl | (refine ⟨?_, rfl⟩; with_reducible rfl))
                      try simp only [Act.put, List.setIfInBounds_toArray, List.set_cons_zero, List.set_cons_succ]
                      refine wpAnyH_take (i := 7) (oi := ?oi7A) (v := ?v7A) ?hi7A (by kernel_rfl) (by kernel_rfl) (by kernel_rfl) (fun _ _ _ h => h) (Or.inl ⟨?hw7A, ?hy7A⟩) hHeld ?rest7A
                      case hi7A => (simp only [List.getElem?_toArray, List.getElem?_cons_succ, List.getElem?_cons_zero]; rfl)
                      case hw7A => (first | rfl | (simp [Region.wanted, yielded]; done))
                      case hy7A => (intro w hSw; (try dsimp only at hSw); go_simp; try first | with_reducible rfl | (refine ⟨?_, rfl⟩; with_reducible rfl))
                      try simp only [Act.put, List.setIfInBounds_toArray, List.set_cons_zero, List.set_cons_succ]
                      refine wpAnyH_take (i := 9) (oi := ?oi9A) (v := ?v9A) ?hi9A (by kernel_rfl) (by kernel_rfl) (by kernel_rfl) (fun _ _ _ h => h) (Or.inl ⟨?hw9A, ?hy9A⟩) hHeld ?rest9A
                      case hi9A => (simp only [List.getElem?_toArray, List.getElem?_cons_succ, List.getElem?_cons_zero]; rfl)
                      case hw9A => (first | rfl | (simp [Region.wanted, yielded]; done))
                      case hy9A => (intro w hSw; (try dsimp only at hSw); go_simp; try first | with_reducible rfl | (refine ⟨?_, rfl⟩; with_reducible rfl))
                      try simp only [Act.put, List.setIfInBounds_toArray, List.set_cons_zero, List.set_cons_succ]
                      refine wpAnyH_take (i := 10) (oi := ?oi10A) (v := ?v10A) ?hi10A (by kernel_rfl) (by kernel_rfl) (by kernel_rfl) (fun _ _ _ h => h) (Or.inl ⟨?hw10A, ?hy10A⟩) hHeld ?rest10A
                      case hi10A => (simp only [List.getElem?_toArray, List.getElem?_cons_succ, List.getElem?_cons_zero]; rfl)
                      case hw10A => (first | rfl | (simp [Region.wanted, yielded]; done))
                      case hy10A => (intro w hSw; (try dsimp only at hSw); go_simp; try first | with_reducible rfl | (refine ⟨?_, rfl⟩; with_reducible rfl))
                      try simp only [Act.put, List.setIfInBounds_toArray, List.set_cons_zero, List.set_cons_succ]
                      refine wpAnyH_ready (rs := [8, 11]) (by kernel_rfl) (by simp) ?_
                      refine (AllReadyH.cons rfl (fun K hK => ?_) (AllReadyH.cons rfl (fun K hK => ?_) AllReadyH.nil))
                      · skip
                        go_simp
                        refine hK.out _ _ (by exact b2_) (fun hHeld => ?_)
                        clear hK K
                        try simp only [Act.put, List.setIfInBounds_toArray, List.set_cons_zero, List.set_cons_succ]
                        refine wpAnyH_ready (rs := [11]) (by kernel_rfl) (by simp) ?_
                        refine (AllReadyH.cons rfl (fun K hK => ?_) AllReadyH.nil)
                        go_simp
                        go_at_call 78
                        refine (l05Drawn_any _ _ nb.1 nb.2).mono ?_
                        rintro e w5 ⟨dv, n5, rfl, ed, rfl⟩
                        refine hK.out _ _ (by exact b2_) (fun hHeld => ?_)
                        clear hK K
                        try simp only [Act.put, List.setIfInBounds_toArray, List.set_cons_zero, List.set_cons_succ]
                        refine wpAnyH_ready (rs := [12]) (by kernel_rfl) (by simp) ?_
                        refine (AllReadyH.cons rfl (fun K hK => ?_) AllReadyH.nil)
                        go_simp
                        refine hK.out _ _ (by exact b2_) (fun hHeld => ?_)
                        clear hK K
                        try simp only [Act.put, List.setIfInBounds_toArray, List.set_cons_zero, List.set_cons_succ]
                        refine wpAnyH_ready (rs := [13]) (by kernel_rfl) (by simp) ?_
                        refine (AllReadyH.cons rfl (fun K hK => ?_) AllReadyH.nil)
                        go_simp
                        refine hK.out _ _ (by exact b2_) (fun hHeld => ?_)
                        clear hK K
                        try simp only [Act.put, List.setIfInBounds_toArray, List.set_cons_zero, List.set_cons_succ]
                        refine wpAnyH_ready (rs := [14]) (by kernel_rfl) (by simp) ?_
                        refine (AllReadyH.cons rfl (fun K hK => ?_) AllReadyH.nil)
                        go_simp
                        refine hK.out _ _ (by exact b2_) (fun hHeld => ?_)
                        clear hK K
                        try simp only [Act.put, List.setIfInBounds_toArray, List.set_cons_zero, List.set_cons_succ]
                        refine wpAnyH_ready (rs := [15]) (by kernel_rfl) (by simp) ?_
                        refine (AllReadyH.cons rfl (fun K hK => ?_) AllReadyH.nil)
                        go_simp
                        refine hK.out _ _ ((World.cell?_setCell_other _ _ _ _ (by intro h; injection h with h; omega)).trans (by exact b2_)) (fun hHeld => ?_)
                        clear hK K
                        try simp only [Act.put, List.setIfInBounds_toArray, List.set_cons_zero, List.set_cons_succ]
                        refine wpAnyH_done (by kernel_rfl) ?_ _
                        first | refine NoPanic.normal ?_ | skip
                        go_wp2
                        clear m1_ m2_
                        try rw [IntWalk.wrap64_in ((x : Int) + (d : Int)) (by omega)]
                        refine ⟨⟨f2, x + 2 * h, nextI sq2, ys2.set j _, congrArg (Value.int .i64) px.out, rfl, nb.1, nb.2, p33, pm.out, pf, by rw [List.length_set]; exact HYL2.out, OwnS.set0 (HO.out.drewN _) hjl, (HK.out.drewN _).setCell (.inl rfl) _, Lib.hid (dia_step1 _ (by simp only [cn_fres]) ES.out ed HJ.out HX.out)⟩, ?_⟩
                        simp [intOf]
                        omega
                      · skip
                        go_simp
                        go_at_call 78
                        refine (l05Drawn_any _ _ nb.1 nb.2).mono ?_
                        rintro e w5 ⟨dv, n5, rfl, ed, rfl⟩
                        refine hK.out _ _ (by exact b2_) (fun hHeld => ?_)
                        clear hK K
                        try simp only [Act.put, List.setIfInBounds_toArray, List.set_cons_zero, List.set_cons_succ]
                        refine wpAnyH_ready (rs := [8, 12]) (by kernel_rfl) (by simp) ?_
                        refine (AllReadyH.cons rfl (fun K hK => ?_) (AllReadyH.cons rfl (fun K hK => ?_) AllReadyH.nil))
                        · skip
                          go_simp
                          refine hK.out _ _ (by exact b2_) (fun hHeld => ?_)
                          clear hK K
                          try simp only [Act.put, List.setIfInBounds_toArray, List.set_cons_zero, List.set_cons_succ]
                          refine wpAnyH_ready (rs := [12]) (by kernel_rfl) (by simp) ?_
                          refine (AllReadyH.cons rfl (fun K hK => ?_) AllReadyH.nil)
                          go_simp
                          refine hK.out _ _ (by exact b2_) (fun hHeld => ?_)
                          clear hK K
                          try simp only [Act.put, List.setIfInBounds_toArray, List.set_cons_zero, List.set_cons_succ]
                          refine wpAnyH_ready (rs := [13]) (by kernel_rfl) (by simp) ?_
                          refine (AllReadyH.cons rfl (fun K hK => ?_) AllReadyH.nil)
                          go_simp
                          refine hK.out _ _ (by exact b2_) (fun hHeld => ?_)
                          clear hK K
                          try simp only [Act.put, List.setIfInBounds_toArray, List.set_cons_zero, List.set_cons_succ]
                          refine wpAnyH_ready (rs := [14]) (by kernel_rfl) (by simp) ?_
                          refine (AllReadyH.cons rfl (fun K hK => ?_) AllReadyH.nil)
                          go_simp
                          refine hK.out _ _ (by exact b2_) (fun hHeld => ?_)
                          clear hK K
                          try simp only [Act.put, List.setIfInBounds_toArray, List.set_cons_zero, List.set_cons_succ]
                          refine wpAnyH_ready (rs := [15]) (by kernel_rfl) (by simp) ?_
                          refine (AllReadyH.cons rfl (fun K hK => ?_) AllReadyH.nil)
                          go_simp
                          refine hK.out _ _ ((World.cell?_setCell_other _ _ _ _ (by intro h; injection h with h; omega)).trans (by exact b2_)) (fun hHeld => ?_)
                          clear hK K
                          try simp only [Act.put, List.setIfInBounds_toArray, List.set_cons_zero, List.set_cons_succ]
                          refine wpAnyH_done (by kernel_rfl) ?_ _
                          first | refine NoPanic.normal ?_ | skip
                          go_wp2
                          clear m1_ m2_
                          try rw [IntWalk.wrap64_in ((x : Int) + (d : Int)) (by omega)]
                          refine ⟨⟨f2, x + 2 * h, nextI sq2, ys2.set j _, congrArg (Value.int .i64) px.out, rfl, nb.1, nb.2, p33, pm.out, pf, by rw [List.length_set]; exact HYL2.out, OwnS.set0 (HO.out.drewN _) hjl, (HK.out.drewN _).setCell (.inl rfl) _, Lib.hid (dia_step1 _ (by simp only [cn_fres]) ES.out ed HJ.out HX.out)⟩, ?_⟩
                          simp [intOf]
                          omega
                        · skip
                          go_simp
                          refine hK.out _ _ (by exact b2_) (fun hHeld => ?_)
                          clear hK K
                          try simp only [Act.put, List.setIfInBounds_toArray, List.set_cons_zero, List.set_cons_succ]
                          refine wpAnyH_ready (rs := [8]) (by kernel_rfl) (by simp) ?_
                          refine (AllReadyH.cons rfl (fun K hK => ?_) AllReadyH.nil)
                          go_simp
                          refine hK.out _ _ (by exact b2_) (fun hHeld => ?_)
                          clear hK K
                          try simp only [Act.put, List.setIfInBounds_toArray, List.set_cons_zero, List.set_cons_succ]
                          refine wpAnyH_ready (rs := [13]) (by kernel_rfl) (by simp) ?_
                          refine (AllReadyH.cons rfl (fun K hK => ?_) AllReadyH.nil)
                          go_simp
                          refine hK.out _ _ (by exact b2_) (fun hHeld => ?_)
                          clear hK K
                          try simp only [Act.put, List.setIfInBounds_toArray, List.set_cons_zero, List.set_cons_succ]
                          refine wpAnyH_ready (rs := [14]) (by kernel_rfl) (by simp) ?_
                          refine (AllReadyH.cons rfl (fun K hK => ?_) AllReadyH.nil)
                          go_simp
                          refine hK.out _ _ (by exact b2_) (fun hHeld => ?_)
                          clear hK K
                          try simp only [Act.put, List.setIfInBounds_toArray, List.set_cons_zero, List.set_cons_succ]
                          refine wpAnyH_ready (rs := [15]) (by kernel_rfl) (by simp) ?_
                          refine (AllReadyH.cons rfl (fun K hK => ?_) AllReadyH.nil)
                          go_simp
                          refine hK.out _ _ ((World.cell?_setCell_other _ _ _ _ (by intro h; injection h with h; omega)).trans (by exact b2_)) (fun hHeld => ?_)
                          clear hK K
                          try simp only [Act.put, List.setIfInBounds_toArray, List.set_cons_zero, List.set_cons_succ]
                          refine wpAnyH_done (by kernel_rfl) ?_ _
                          first | refine NoPanic.normal ?_ | skip
                          go_wp2
                          clear m1_ m2_
                          try rw [IntWalk.wrap64_in ((x : Int) + (d : Int)) (by omega)]
                          refine ⟨⟨f2, x + 2 * h, nextI sq2, ys2.set j _, congrArg (Value.int .i64) px.out, rfl, nb.1, nb.2, p33, pm.out, pf, by rw [List.length_set]; exact HYL2.out, OwnS.set0 (HO.out.drewN _) hjl, (HK.out.drewN _).setCell (.inl rfl) _, Lib.hid (dia_step1 _ (by simp only [cn_fres]) ES.out ed HJ.out HX.out)⟩, ?_⟩
                          simp [intOf]
                          omega
                    · have HE := Lib.hid ((dx1_end (n := n) (r := cn .f32 R) (h := h) (y := y) (f := f2) (x := x) (st := (cl ys2, sq2)) (by omega)).symm.trans HX.out)
                      clear HX
                      have px : Hid ((y : Int) + d = ((y + 2 * h : Nat) : Int)) := Lib.hid (by have := HD.out; omega)
                      have pm : Hid ((y + 2 * h) % d = h) := Lib.hid (by have e := HYM.out; rw [HD.out] at e ⊢; rw [Nat.add_mod_right]; exact e)
                      go_wp2
                      try rw [IntWalk.wrap64_in ((y : Int) + (d : Int)) (by omega)]
                      refine ⟨⟨f1, y + 2 * h, sq2, ys2, congrArg (Value.int .i64) px.out, rfl, q0, q1, by omega, pm.out, by omega, hyl2, hO, hK, Lib.hid (by rw [HE.out]; have e := HY.out; rw [show ((y + 2 * h : Nat) : Int) = (y : Int) + 2 * (h : Int) by omega]; exact e)⟩, ?_⟩
                      simp [intOf]
                      omega
                · have HE := Lib.hid ((dy1_end (n := n) (r := cn .f32 R) (h := h) (f := f1) (y := y) (st := (cl ys1, sq1)) (by omega)).symm.trans HY.out)
                  clear HY
                  have HT : Hid (dhh n (cn .f32 fd) f ((h : Int) / 2) (fop .mul .f32 (cn .f32 R) (cn .f32 fd)) (dy2 n (cn .f32 R) h 17 0 (cl ys1, sq1)) = T) := Lib.hid (by rw [HE.out]; exact HT.out)
                  clear HE
                  obtain ⟨wo, hwo⟩ : ∃ wo, wo = wr := ⟨_, rfl⟩
                  rw [← hwo] at hO hK
                  rw [← hwo]
                  clear hwo
                  go_wp2_with fail
                  go_loopw [4, 21] (fun sv yv wr => ∃ (f y : Nat) (sq2 : Int) (ys2 : List Nat), yv = .int .i64 (y : Int) ∧ sv = .int .i64 sq2 ∧ 0 ≤ sq2 ∧ sq2 ≤ 2147483647 ∧ y ≤ 33 ∧ n ≤ y + f ∧ ys2.length = N ∧ OwnS w0.heap.size wr (some ⟨w0.heap.size, 0, none⟩) (ys2.map fv) ∧ Keep (fun k => k = w0.heap.size) wc wr ∧ Hid (dy2 n (cn .f32 R) h f y (cl ys2, sq2) = dy2 n (cn .f32 R) h 17 0 (cl ys1, sq1))) (fun _ yv _ => n - (intOf yv).toNat)
                  case atStart => exact ⟨17, 0, sq1, ys1, rfl, rfl, q0, q1, by omega, by omega, hyl1, hO, hK, Lib.hid rfl⟩
                  case round =>
                    clear hO hK hyl1 q0 q1 hf1
                    obtain ⟨f1, y, sq2, ys2, rfl, rfl, q0, q1, hy33, hf1, hyl2, hO, hK, HY⟩ := hrel
                    by_cases hy : y < n
                    · obtain ⟨f1, rfl⟩ : ∃ f', f1 = f' + 1 := ⟨f1 - 1, by omega⟩
                      have hyn : (y : Int) < n := by omega
                      have HY := Lib.hid ((dy2_go (n := n) (r := cn .f32 R) (h := h) (f := f1) (y := y) (st := (cl ys2, sq2)) hyn).symm.trans HY.out)
                      obtain ⟨wo, hwo⟩ : ∃ wo, wo = wr := ⟨_, rfl⟩
                      rw [← hwo] at hO hK
                      rw [← hwo]
                      clear hwo
                      go_wp2_with fail
                      go_loopw [4, 22] (fun sv xv wr => ∃ (f x : Nat) (sq3 : Int) (ys3 : List Nat), xv = .int .i64 (x : Int) ∧ sv = .int .i64 sq3 ∧ 0 ≤ sq3 ∧ sq3 ≤ 2147483647 ∧ x ≤ 33 ∧ n ≤ x + f ∧ ys3.length = N ∧ OwnS w0.heap.size wr (some ⟨w0.heap.size, 0, none⟩) (ys3.map fv) ∧ Keep (fun k => k = w0.heap.size) wc wr ∧ Hid (dx2 n (cn .f32 R) h y f x (cl ys3, sq3) = dx2 n (cn .f32 R) h y 17 0 (cl ys2, sq2))) (fun _ xv _ => n - (intOf xv).toNat)
                      case atStart => exact ⟨17, 0, sq2, ys2, rfl, rfl, q0, q1, by omega, by omega, hyl2, hO, hK, Lib.hid rfl⟩
                      case round =>
                        clear hO hK hyl2 q0 q1
                        obtain ⟨f2, x, sq3, ys3, rfl, rfl, q0, q1, hx33, hf2, hyl3, hO, hK, HX⟩ := hrel
                        by_cases hx : x < n
                        · obtain ⟨f2, rfl⟩ : ∃ f', f2 = f' + 1 := ⟨f2 - 1, by omega⟩
                          have hxn : (x : Int) < n := by omega
                          obtain ⟨u1, u2⟩ := quo_bd (x := x) (h := h) hh1 (by omega)
                          obtain ⟨u3, u4⟩ := quo_bd (x := y) (h := h) hh1 (by omega)
                          by_cases hp : ((x : Int) / h + (y : Int) / h) % 2 = 0
                          · have HX := Lib.hid ((dx2_skip (n := n) (r := cn .f32 R) (h := h) (y := y) (f := f2) (x := x) (st := (cl ys3, sq3)) hxn hp).symm.trans HX.out)
                            have tp : ((wrap64 (wrap64 ((x : Int) / h) + wrap64 ((y : Int) / h))).tmod 2 == 0) = true := by
                              rw [par_eq u1 u2 u3 u4, hp]; rfl
                            clear hp u1 u2 u3 u4
                            go_wp2_with fail
                            go_quiet (fail)
                            go_wp2_with fail
                            refine ⟨⟨f2, x + h, sq3, ys3, congrArg (Value.int .i64) (by omega), rfl, q0, q1, by omega, by omega, hyl3, hO.drewN _, hK.drewN _, Lib.hid (by have e := HX.out; rw [show ((x + h : Nat) : Int) = (x : Int) + (h : Int) by omega]; exact e)⟩, ?_⟩
                            simp [intOf]
                            omega
                          · have HX := Lib.hid ((dx2_go (n := n) (r := cn .f32 R) (h := h) (y := y) (f := f2) (x := x) (st := (cl ys3, sq3)) hxn hp).symm.trans HX.out)
                            have tp : ((wrap64 (wrap64 ((x : Int) / h) + wrap64 ((y : Int) / h))).tmod 2 == 0) = false := by
                              rw [par_eq u1 u2 u3 u4]; simpa using hp
                            clear hp u1 u2 u3 u4
                            have nb := nextI_bd sq3
                            go_wp2_with fail
                            go_quiet (fail)
                            go_wp2_with fail
                            clear tp
                            have hO : OwnS w0.heap.size (World.drewN wr nq) (some ⟨w0.heap.size, 0, none⟩) (ys3.map fv) := hO.drewN _
                            have hK : Keep (fun k => k = w0.heap.size) wc (World.drewN wr nq) := hK.drewN _
                            have SBX := sb3.keep hK (by show ¬ w1.heap.size = w0.heap.size; omega)
                            have AR := l05Around_any n (some ⟨w0.heap.size, 0, none⟩) N ys3 w1.heap.size x y h (World.drewN wr nq) hO.1 hn17 (by rw [hyl3, HN.out]) (by rw [hyl3]; exact SBX) (by omega) (by omega) (by omega)
                            refine AR.mono ?_
                            rintro e w4 ⟨sm, kk, rfl, es, k4⟩
                            have hO := hO.below k4
                            have hK := hK.trans (Keep.of_below k4)
                            obtain ⟨s_, b0_, b1_, b2_⟩ := SBX.below k4
                            clear AR k4 SBX
                            go_wp2_with fail
                            refine (l05Next_any _ _ q0 q1).mono ?_
                            rintro e w5 ⟨rfl, rfl⟩
                            obtain ⟨PJ, hPJ⟩ : ∃ PJ : Nat, (y : Int) * n = PJ := ⟨y * n, by push_cast; rfl⟩
                            obtain ⟨j, hj⟩ : ∃ j : Nat, (PJ : Int) + x = j := ⟨PJ + x, by omega⟩
                            obtain ⟨_, w5_, _, w7_⟩ | hbad := idx_in (inb_nat hx hy)
                            rotate_left
                            · omega
                            have bj' : j < N := by rw [HN.out]; omega
                            have cj' : (j : Int) < N := by omega
                            have m1_ : IntKind.i64.wrap (PJ : Int) = PJ := IntWalk.i64_in _ (by omega)
                            have m2_ : IntKind.i64.wrap (j : Int) = j := IntWalk.i64_in _ (by omega)
                            have m3_ : (0 : Int) ≤ j := by omega
                            have px : Hid ((x : Int) + h = ((x + h : Nat) : Int)) := Lib.hid (by omega)
                            have p33 : x + h ≤ 33 := by omega
                            have pf : n ≤ x + h + f2 := by omega
                            have hjl : j < ys3.length := by rw [hyl3]; exact bj'
                            obtain ⟨dj, fj⟩ := own_at hO hjl
                            generalize ys3[j] = vo at dj
                            have HYL3 := Lib.hid hyl3
                            have HJ : Hid ((y : Int) * n + x = j) := Lib.hid (by rw [hPJ]; exact hj)
                            have ES := Lib.hid es
                            have HO := Lib.hid hO
                            have HK := Lib.hid hK
                            clear w5_ w7_ es hO hK hyl3
                            go_wp2_with fail
                            first | refine wp_region_noPanic ?_ | skip
                            refine wp_region_held_drew (S := fun w' => w'.cell? ⟨w1.heap.size, 2, none⟩ = some (.slice (some ⟨w0.heap.size, 0, none⟩) N N)) (by kernel_rfl) (by exact b2_) (fun hHeld => ?_)
                            refine wpAnyH_take (i := 0) (oi := ?oi0B) (v := ?v0B) ?hi0B (by kernel_rfl) (by kernel_rfl) (by kernel_rfl) (fun _ _ _ h => h) (Or.inl ⟨?hw0B, ?hy0B⟩) hHeld ?rest0B
                            case hi0B => (simp only [List.getElem?_toArray, List.getElem?_cons_zero]; rfl)
                            case hw0B => (first | rfl | (simp [Region.wanted, yielded]; done))
                            case hy0B => (intro w hSw; (try dsimp only at hSw); go_simp; try first | with_reducible rfl | (refine ⟨?_, rfl⟩; with_reducible rfl))
                            try simp only [Act.put, List.setIfInBounds_toArray, List.set_cons_zero, List.set_cons_succ]
                            refine wpAnyH_take (i := 1) (oi := ?oi1B) (v := ?v1B) ?hi1B (by kernel_rfl) (by kernel_rfl) (by kernel_rfl) (fun _ _ _ h => h) (Or.inl ⟨?hw1B, ?hy1B⟩) hHeld ?rest1B
                            case hi1B => (simp only [List.getElem?_toArray, List.getElem?_cons_succ, List.getElem?_cons_zero]; rfl)
                            case hw1B => (first | rfl | (simp [Region.wanted, yielded]; done))
                            case hy1B => (intro w hSw; (try dsimp only at hSw); go_simp; try first | with_reducible rfl | (refine ⟨?_, rfl⟩; with_reducible rfl))
                            try simp only [Act.put, List.setIfInBounds_toArray, List.set_cons_zero, List.set_cons_succ]
                            refine wpAnyH_take (i := 2) (oi := ?oi2B) (v := ?v2B) ?hi2B (by kernel_rfl) (by kernel_rfl) (by kernel_rfl) (fun _ _ _ h => h) (Or.inl ⟨?hw2B, ?hy2B⟩) hHeld ?rest2B
                            case hi2B => (simp only [List.getElem?_toArray, List.getElem?_cons_succ, List.getElem?_cons_zero]; rfl)
                            case hw2B => (first | rfl | (simp [Region.wanted, yielded]; done))
                            case hy2B => (intro w hSw; (try dsimp only at hSw); go_simp; try first | with_reducible rfl | (refine ⟨?_, rfl⟩; with_reducible rfl))
                            try simp only [Act.put, List.setIfInBounds_toArray, List.set_cons_zero, List.set_cons_succ]
                            refine wpAnyH_take (i := 3) (oi := ?oi3B) (v := ?v3B) ?hi3B (by kernel_rfl) (by kernel_rfl) (by kernel_rfl) (fun _ _ _ h => h) (Or.inl ⟨?hw3B, ?hy3B⟩) hHeld ?rest3B
                            case hi3B => (simp only [List.getElem?_toArray, List.getElem?_cons_succ, List.getElem?_cons_zero]; rfl)
                            case hw3B => (first | rfl | (simp [Region.wanted, yielded]; done))
                            case hy3B => (intro w hSw; (try dsimp only at hSw); go_simp; try first | with_reducible rfl | (refine ⟨?_, rfl⟩; with_reducible rfl))
                            try simp only [Act.put, List.setIfInBounds_toArray, List.set_cons_zero, List.set_cons_succ]
                            refine wpAnyH_take (i := 4) (oi := ?oi4B) (v := ?v4B) ?hi4B (by kernel_rfl) (by kernel_rfl) (by kernel_rfl) (fun _ _ _ h => h) (Or.inl ⟨?hw4B, ?hy4B⟩) hHeld ?rest4B
                            case hi4B => (simp only [List.getElem?_toArray, List.getElem?_cons_succ, List.getElem?_cons_zero]; rfl)
                            case hw4B => (first | rfl | (simp [Region.wanted, yielded]; done))
                            case hy4B => (intro w hSw; (try dsimp only at hSw); go_simp; try first | with_reducible rfl | (refine ⟨?_, rfl⟩; with_reducible rfl))
                            try simp only [Act.put, List.setIfInBounds_toArray, List.set_cons_zero, List.set_cons_succ]
                            refine wpAnyH_take (i := 5) (oi := ?oi5B) (v := ?v5B) ?hi5B (by kernel_rfl) (by kernel_rfl) (by kernel_rfl) (fun _ _ _ h => h) (Or.inl ⟨?hw5B, ?hy5B⟩) hHeld ?rest5B
                            case hi5B => (simp only [List.getElem?_toArray, List.getElem?_cons_succ, List.getElem?_cons_zero]; rfl)
                            case hw5B => (first | rfl | (simp [Region.wanted, yielded]; done))
                            case hy5B => (intro w hSw; (try dsimp only at hSw); go_simp; try first | with_reducible rfl | (refine ⟨?_, rfl⟩; with_reducible rfl))
                            try simp only [Act.put, List.setIfInBounds_toArray, List.set_cons_zero, List.set_cons_succ]
                            refine wpAnyH_take (i := 6) (oi := ?oi6B) (v := ?v6B) ?hi6B (by kernel_rfl) (by kernel_rfl) (by kernel_rfl) (fun _ _ _ h => h) (Or.inl ⟨?hw6B, ?hy6B⟩) hHeld ?rest6B
                            case hi6B => (simp only [List.getElem?_toArray, List.getElem?_cons_succ, List.getElem?_cons_zero]; rfl)
                            case hw6B => (first | rfl | (simp [Region.wanted, yielded]; done))
                            case hy6B => (intro w hSw; (try dsimp only at hSw); go_simp; try first | with_reducible rfl | (refine ⟨?_, rfl⟩; with_reducible rfl))
                            try simp only [Act.put, List.setIfInBounds_toArray, List.set_cons_zero, List.set_cons_succ]
                            refine wpAnyH_take (i := 7) (oi := ?oi7B) (v := ?v7B) ?hi7B (by kernel_rfl) (by kernel_rfl) (by kernel_rfl) (fun _ _ _ h => h) (Or.inl ⟨?hw7B, ?hy7B⟩) hHeld ?rest7B
                            case hi7B => (simp only [List.getElem?_toArray, List.getElem?_cons_succ, List.getElem?_cons_zero]; rfl)
                            case hw7B => (first | rfl | (simp [Region.wanted, yielded]; done))
                            case hy7B => (intro w hSw; (try dsimp only at hSw); go_simp; try first | with_reducible rfl | (refine ⟨?_, rfl⟩; with_reducible rfl))
                            try simp only [Act.put, List.setIfInBounds_toArray, List.set_cons_zero, List.set_cons_succ]
                            refine wpAnyH_take (i := 8) (oi := ?oi8B) (v := ?v8B) ?hi8B (by kernel_rfl) (by kernel_rfl) (by kernel_rfl) (fun _ _ _ h => h) (Or.inl ⟨?hw8B, ?hy8B⟩) hHeld ?rest8B
                            case hi8B => (simp only [List.getElem?_toArray, List.getElem?_cons_succ, List.getElem?_cons_zero]; rfl)
                            case hw8B => (first | rfl | (simp [Region.wanted, yielded]; done))
                            case hy8B => (intro w hSw; (try dsimp only at hSw); go_simp; try first | with_reducible rfl | (refine ⟨?_, rfl⟩; with_reducible rfl))
                            try simp only [Act.put, List.setIfInBounds_toArray, List.set_cons_zero, List.set_cons_succ]
                            refine wpAnyH_take (i := 9) (oi := ?oi9B) (v := ?v9B) ?hi9B (by kernel_rfl) (by kernel_rfl) (by kernel_rfl) (fun _ _ _ h => h) (Or.inl ⟨?hw9B, ?hy9B⟩) hHeld ?rest9B
                            case hi9B => (simp only [List.getElem?_toArray, List.getElem?_cons_succ, List.getElem?_cons_zero]; rfl)
                            case hw9B => (first | rfl | (simp [Region.wanted, yielded]; done))
                            case hy9B => (intro w hSw; (try dsimp only at hSw); go_simp; try first | with_reducible rfl | (refine ⟨?_, rfl⟩; with_reducible rfl))
                            try simp only [Act.put, List.setIfInBounds_toArray, List.set_cons_zero, List.set_cons_succ]
                            refine wpAnyH_take (i := 11) (oi := ?oi11B) (v := ?v11B) ?hi11B (by kernel_rfl) (by kernel_rfl) (by kernel_rfl) (fun _ _ _ h => h) (Or.inl ⟨?hw11B, ?hy11B⟩) hHeld ?rest11B
                            case hi11B => (simp only [List.getElem?_toArray, List.getElem?_cons_succ, List.getElem?_cons_zero]; rfl)
                            case hw11B => (first | rfl | (simp [Region.wanted, yielded]; done))
                            case hy11B => (intro w hSw; (try dsimp only at hSw); go_simp; try first | with_reducible rfl | (refine ⟨?_, rfl⟩; with_reducible rfl))
                            try simp only [Act.put, List.setIfInBounds_toArray, List.set_cons_zero, List.set_cons_succ]
                            refine wpAnyH_take (i := 12) (oi := ?oi12B) (v := ?v12B) ?hi12B (by kernel_rfl) (by kernel_rfl) (by kernel_rfl) (fun _ _ _ h => h) (Or.inl ⟨?hw12B, ?hy12B⟩) hHeld ?rest12B
                            case hi12B => (simp only [List.getElem?_toArray, List.getElem?_cons_succ, List.getElem?_cons_zero]; rfl)
                            case hw12B => (first | rfl | (simp [Region.wanted, yielded]; done))
                            case hy12B => (intro w hSw; (try dsimp only at hSw); go_simp; try first | with_reducible rfl | (refine ⟨?_, rfl⟩; with_reducible rfl))
                            try simp only [Act.put, List.setIfInBounds_toArray, List.set_cons_zero, List.set_cons_succ]
                            refine wpAnyH_ready (rs := [10, 13]) (by kernel_rfl) (by simp) ?_
                            refine (AllReadyH.cons rfl (fun K hK => ?_) (AllReadyH.cons rfl (fun K hK => ?_) AllReadyH.nil))
                            · skip
                              go_simp
                              refine hK.out _ _ (by exact b2_) (fun hHeld => ?_)
                              clear hK K
                              try simp only [Act.put, List.setIfInBounds_toArray, List.set_cons_zero, List.set_cons_succ]
                              refine wpAnyH_ready (rs := [13]) (by kernel_rfl) (by simp) ?_
                              refine (AllReadyH.cons rfl (fun K hK => ?_) AllReadyH.nil)
                              go_simp
                              go_at_call 78
                              refine (l05Drawn_any _ _ nb.1 nb.2).mono ?_
                              rintro e w6 ⟨dv, n6, rfl, ed, rfl⟩
                              refine hK.out _ _ (by exact b2_) (fun hHeld => ?_)
                              clear hK K
                              try simp only [Act.put, List.setIfInBounds_toArray, List.set_cons_zero, List.set_cons_succ]
                              refine wpAnyH_ready (rs := [14]) (by kernel_rfl) (by simp) ?_
                              refine (AllReadyH.cons rfl (fun K hK => ?_) AllReadyH.nil)
                              go_simp
                              refine hK.out _ _ (by exact b2_) (fun hHeld => ?_)
                              clear hK K
                              try simp only [Act.put, List.setIfInBounds_toArray, List.set_cons_zero, List.set_cons_succ]
                              refine wpAnyH_ready (rs := [15]) (by kernel_rfl) (by simp) ?_
                              refine (AllReadyH.cons rfl (fun K hK => ?_) AllReadyH.nil)
                              go_simp
                              refine hK.out _ _ (by exact b2_) (fun hHeld => ?_)
                              clear hK K
                              try simp only [Act.put, List.setIfInBounds_toArray, List.set_cons_zero, List.set_cons_succ]
                              refine wpAnyH_ready (rs := [16]) (by kernel_rfl) (by simp) ?_
                              refine (AllReadyH.cons rfl (fun K hK => ?_) AllReadyH.nil)
                              go_simp
                              refine hK.out _ _ (by exact b2_) (fun hHeld => ?_)
                              clear hK K
                              try simp only [Act.put, List.setIfInBounds_toArray, List.set_cons_zero, List.set_cons_succ]
                              refine wpAnyH_ready (rs := [17]) (by kernel_rfl) (by simp) ?_
                              refine (AllReadyH.cons rfl (fun K hK => ?_) AllReadyH.nil)
                              go_simp
                              refine hK.out _ _ ((World.cell?_setCell_other _ _ _ _ (by intro h; injection h with h; omega)).trans (by exact b2_)) (fun hHeld => ?_)
                              clear hK K
                              try simp only [Act.put, List.setIfInBounds_toArray, List.set_cons_zero, List.set_cons_succ]
                              refine wpAnyH_done (by kernel_rfl) ?_ _
                              first | refine NoPanic.normal ?_ | skip
                              go_wp2
                              clear m1_ m2_
                              try rw [IntWalk.wrap64_in ((x : Int) + (h : Int)) (by omega)]
                              refine ⟨⟨f2, x + h, nextI sq3, ys3.set j _, congrArg (Value.int .i64) px.out, rfl, nb.1, nb.2, p33, pf, by rw [List.length_set]; exact HYL3.out, OwnS.set0 (HO.out.drewN _) hjl, (HK.out.drewN _).setCell (.inl rfl) _, Lib.hid (dia_step2 _ (by simp only [cn_fres]; rfl) ES.out ed HJ.out HX.out)⟩, ?_⟩
                              simp [intOf]
                              omega
                            · skip
                              go_simp
                              go_at_call 78
                              refine (l05Drawn_any _ _ nb.1 nb.2).mono ?_
                              rintro e w6 ⟨dv, n6, rfl, ed, rfl⟩
                              refine hK.out _ _ (by exact b2_) (fun hHeld => ?_)
                              clear hK K
                              try simp only [Act.put, List.setIfInBounds_toArray, List.set_cons_zero, List.set_cons_succ]
                              refine wpAnyH_ready (rs := [10, 14]) (by kernel_rfl) (by simp) ?_
                              refine (AllReadyH.cons rfl (fun K hK => ?_) (AllReadyH.cons rfl (fun K hK => ?_) AllReadyH.nil))
                              · skip
                                go_simp
                                refine hK.out _ _ (by exact b2_) (fun hHeld => ?_)
                                clear hK K
                                try simp only [Act.put, List.setIfInBounds_toArray, List.set_cons_zero, List.set_cons_succ]
                                refine wpAnyH_ready (rs := [14]) (by kernel_rfl) (by simp) ?_
                                refine (AllReadyH.cons rfl (fun K hK => ?_) AllReadyH.nil)
                                go_simp
                                refine hK.out _ _ (by exact b2_) (fun hHeld => ?_)
                                clear hK K
                                try simp only [Act.put, List.setIfInBounds_toArray, List.set_cons_zero, List.set_cons_succ]
                                refine wpAnyH_ready (rs := [15]) (by kernel_rfl) (by simp) ?_
                                refine (AllReadyH.cons rfl (fun K hK => ?_) AllReadyH.nil)
                                go_simp
                                refine hK.out _ _ (by exact b2_) (fun hHeld => ?_)
                                clear hK K
                                try simp only [Act.put, List.setIfInBounds_toArray, List.set_cons_zero, List.set_cons_succ]
                                refine wpAnyH_ready (rs := [16]) (by kernel_rfl) (by simp) ?_
                                refine (AllReadyH.cons rfl (fun K hK => ?_) AllReadyH.nil)
                                go_simp
                                refine hK.out _ _ (by exact b2_) (fun hHeld => ?_)
                                clear hK K
                                try simp only [Act.put, List.setIfInBounds_toArray, List.set_cons_zero, List.set_cons_succ]
                                refine wpAnyH_ready (rs := [17]) (by kernel_rfl) (by simp) ?_
                                refine (AllReadyH.cons rfl (fun K hK => ?_) AllReadyH.nil)
                                go_simp
                                refine hK.out _ _ ((World.cell?_setCell_other _ _ _ _ (by intro h; injection h with h; omega)).trans (by exact b2_)) (fun hHeld => ?_)
                                clear hK K
                                try simp only [Act.put, List.setIfInBounds_toArray, List.set_cons_zero, List.set_cons_succ]
                                refine wpAnyH_done (by kernel_rfl) ?_ _
                                first | refine NoPanic.normal ?_ | skip
                                go_wp2
                                clear m1_ m2_
                                try rw [IntWalk.wrap64_in ((x : Int) + (h : Int)) (by omega)]
                                refine ⟨⟨f2, x + h, nextI sq3, ys3.set j _, congrArg (Value.int .i64) px.out, rfl, nb.1, nb.2, p33, pf, by rw [List.length_set]; exact HYL3.out, OwnS.set0 (HO.out.drewN _) hjl, (HK.out.drewN _).setCell (.inl rfl) _, Lib.hid (dia_step2 _ (by simp only [cn_fres]; rfl) ES.out ed HJ.out HX.out)⟩, ?_⟩
                                simp [intOf]
                                omega
                              · skip
                                go_simp
                                refine hK.out _ _ (by exact b2_) (fun hHeld => ?_)
                                clear hK K
                                try simp only [Act.put, List.setIfInBounds_toArray, List.set_cons_zero, List.set_cons_succ]
                                refine wpAnyH_ready (rs := [10]) (by kernel_rfl) (by simp) ?_
                                refine (AllReadyH.cons rfl (fun K hK => ?_) AllReadyH.nil)
                                go_simp
                                refine hK.out _ _ (by exact b2_) (fun hHeld => ?_)
                                clear hK K
                                try simp only [Act.put, List.setIfInBounds_toArray, List.set_cons_zero, List.set_cons_succ]
                                refine wpAnyH_ready (rs := [15]) (by kernel_rfl) (by simp) ?_
                                refine (AllReadyH.cons rfl (fun K hK => ?_) AllReadyH.nil)
                                go_simp
                                refine hK.out _ _ (by exact b2_) (fun hHeld => ?_)
                                clear hK K
                                try simp only [Act.put, List.setIfInBounds_toArray, List.set_cons_zero, List.set_cons_succ]
                                refine wpAnyH_ready (rs := [16]) (by kernel_rfl) (by simp) ?_
                                refine (AllReadyH.cons rfl (fun K hK => ?_) AllReadyH.nil)
                                go_simp
                                refine hK.out _ _ (by exact b2_) (fun hHeld => ?_)
                                clear hK K
                                try simp only [Act.put, List.setIfInBounds_toArray, List.set_cons_zero, List.set_cons_succ]
                                refine wpAnyH_ready (rs := [17]) (by kernel_rfl) (by simp) ?_
                                refine (AllReadyH.cons rfl (fun K hK => ?_) AllReadyH.nil)
                                go_simp
                                refine hK.out _ _ ((World.cell?_setCell_other _ _ _ _ (by intro h; injection h with h; omega)).trans (by exact b2_)) (fun hHeld => ?_)
                                clear hK K
                                try simp only [Act.put, List.setIfInBounds_toArray, List.set_cons_zero, List.set_cons_succ]
                                refine wpAnyH_done (by kernel_rfl) ?_ _
                                first | refine NoPanic.normal ?_ | skip
                                go_wp2
                                clear m1_ m2_
                                try rw [IntWalk.wrap64_in ((x : Int) + (h : Int)) (by omega)]
                                refine ⟨⟨f2, x + h, nextI sq3, ys3.set j _, congrArg (Value.int .i64) px.out, rfl, nb.1, nb.2, p33, pf, by rw [List.length_set]; exact HYL3.out, OwnS.set0 (HO.out.drewN _) hjl, (HK.out.drewN _).setCell (.inl rfl) _, Lib.hid (dia_step2 _ (by simp only [cn_fres]; rfl) ES.out ed HJ.out HX.out)⟩, ?_⟩
                                simp [intOf]
                                omega
                        · have HE := Lib.hid ((dx2_end (n := n) (r := cn .f32 R) (h := h) (y := y) (f := f2) (x := x) (st := (cl ys3, sq3)) (by omega)).symm.trans HX.out)
                          clear HX
                          go_wp2
                          refine ⟨⟨f1, y + h, sq3, ys3, congrArg (Value.int .i64) (by omega), rfl, q0, q1, by omega, by omega, hyl3, hO, hK, Lib.hid (by rw [HE.out]; have e := HY.out; rw [show ((y + h : Nat) : Int) = (y : Int) + (h : Int) by omega]; exact e)⟩, ?_⟩
                          simp [intOf]
                          omega
                    · have HE := Lib.hid ((dy2_end (n := n) (r := cn .f32 R) (h := h) (f := f1) (y := y) (st := (cl ys2, sq2)) (by omega)).symm.trans HY.out)
                      clear HY
                      have HT : Hid (dhh n (cn .f32 fd) f ((h : Int) / 2) (fop .mul .f32 (cn .f32 R) (cn .f32 fd)) (cl ys2, sq2) = T) := Lib.hid (by rw [HE.out]; exact HT.out)
                      clear HE
                      have DN := DH.next hh
                      have dq : Hid ((d : Int) / 2 = ((d / 2 : Nat) : Int)) := Lib.hid (by omega)
                      have d16 : d / 2 ≤ 16 := by omega
                      have hf' : h / 2 ≤ f := by omega
                      go_wp2
                      refine ⟨⟨f, d / 2, h / 2, _, sq2, ys2, congrArg (Value.int .i64) dq.out, rfl, rfl, q0, q1, d16, DN, hf', hyl2, hO, hK.drewN _, Lib.hid (by rw [cn_fres]; have e := HT.out; rw [show ((h / 2 : Nat) : Int) = (h : Int) / 2 by omega]; exact e)⟩, ?_⟩
                      simp [intOf]
                      omega
            · have HE := Lib.hid ((dhh_end (n := n) (fd := cn .f32 fd) (f := f) (h := h) (r := cn .f32 R) (st := (cl ys, sq)) (by omega)).symm.trans HT.out)
              clear HT
              have hd1 := DH.one hh
              have hh' : ¬ (1 : Int) < d := by omega
              have DB : Hid (diaB p (cl xs) (cn .f32 rf) (cn .f32 fd) sd = shB n n ys) := Lib.hid (by
                have e := HE.out.trans HTT.out
                rw [shC_cl]
                unfold diaB
                rw [← e, ← Hn.out, dia_guard ⟨p1, p4⟩ hl hf0.out hr hg hs ⟨s0, s1⟩, Bool.true_and])
              have DT : Hid ((cl ys, sq) = diaT p (cl xs) (cn .f32 rf) (cn .f32 fd) sd) := Lib.hid (HE.out.trans HTT.out)
              have HYL := Lib.hid hyl
              have HO := Lib.hid hO
              have SBX := sb3.keep hK (by show ¬ w1.heap.size = w0.heap.size; omega)
              obtain ⟨r_, r0, r1, r2⟩ := rb3.keep hK (by show ¬ w.heap.size = w0.heap.size; omega)
              have q_ : ∀ i, wr.frozen? ⟨w.heap.size, i, none⟩ = false := fun i => (World.frozen?_of_block (w := wc) (hK.block w.heap.size rb3.lt (by show ¬ w.heap.size = w0.heap.size; omega))).trans (rf3 i)
              have KR : Below w.heap.size w wr := Keep.below K3 hK (by have := rb3.lt; omega) (fun k e => by rw [e]; omega)
              have V := l05Is_any w1.heap.size n n (some ⟨w0.heap.size, 0, none⟩) N ys wr hO.1 (by rw [hyl]; unfold maxLen; omega) SBX.c0 SBX.c1 (by rw [hyl]; exact SBX.c2)
              have V := Lib.hid V
              clear HE HTT hyl hO hK sb3 rb3 rf3 K3 hd1 DH
              go_wp2_with fail
              refine V.out.mono ?_
              rintro e w7 ⟨rfl, n7, hw7⟩
              obtain ⟨s_, b0_, b1_, b2_⟩ : BoxS w7 w1.heap.size n n (some ⟨w0.heap.size, 0, none⟩) N N := by rw [hw7]; exact SBX.drewN _
              have f0 : w7.frozen? ⟨w.heap.size, 0, none⟩ = false := by rw [hw7]; exact q_ 0
              have f1 : w7.frozen? ⟨w.heap.size, 1, none⟩ = false := by rw [hw7]; exact q_ 1
              have f2 : w7.frozen? ⟨w.heap.size, 2, none⟩ = false := by rw [hw7]; exact q_ 2
              obtain ⟨r_, r0, r1, r2⟩ : BoxS w7 w.heap.size 0 0 none 0 0 := by rw [hw7]; exact (BoxS.mk r_ r0 r1 r2).drewN _
              have KR : Below w.heap.size w w7 := by rw [hw7]; exact below_drewN KR _
              have O7 : Hid (OwnS w0.heap.size w7 (some ⟨w0.heap.size, 0, none⟩) (ys.map fv)) := Lib.hid (by rw [hw7]; exact HO.out.drewN _)
              clear hw7 q_ HO SBX
              cases hv : shB n n ys
              · go_wp2
                refine bodyPost_ret (v := .tuple #[shv 0 0 none 0 0, .int .i64 0, .bool false]) (by simp [results, Try.results37, go_sem, r0, r1, r2]) rfl ?_
                exact dia_no (DB.out.trans hv) (below_put3 KR (Nat.le_refl _))
              · go_wp2
                refine bodyPost_ret (v := .tuple #[shv n n (some ⟨w0.heap.size, 0, none⟩) N N, .int .i64 sq, .bool true]) (by simp [results, Try.results37, go_sem, r0, r1, r2]) rfl ?_
                have D : ∀ w', OwnS w.heap.size w' (some ⟨w0.heap.size, 0, none⟩) (ys.map fv) → Below w.heap.size w w' → DiaR w p (cl xs) (cn .f32 rf) (cn .f32 fd) sd (.returned (.tuple #[shv n n (some ⟨w0.heap.size, 0, none⟩) N N, .int .i64 sq, .bool true])) w' := fun w' ho k => by
                  have D := dia_yes (w := w) (w' := w') (A := some ⟨w0.heap.size, 0, none⟩) (c := N) (xs := ys) (DB.out.trans hv) (congrArg Prod.fst DT.out) ho k
                  rw [← Hn.out, ← DT.out, HYL.out] at D
                  exact D
                exact D _ ((own_put3 O7.out hzw _ _ _).less (Nat.le_of_lt hzw)) (below_put3 KR (Nat.le_refl _))
end Go.Proofs.Ytenepnbickpcjaa
