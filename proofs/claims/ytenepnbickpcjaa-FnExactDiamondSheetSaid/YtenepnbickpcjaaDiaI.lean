/- DiamondSheet, the program's side. -/
import Derived.Test.YtenepnbickpcjaaDia
import Derived.Test.YtenepnbickpcjaaNormS
import Derived.Deep.RegionHeld3
import Derived.Deep.CutRange
namespace Go.Proofs.Ytenepnbickpcjaa
open Go.RowKit

theorem stR_new (w : World) (t : TypeId) (a b c d e f g h : Int) : StR (w.alloc (.cells #[.int .i64 a, .int .i64 b, .int .i64 c, .int .i64 d, .int .i64 e, .int .i64 f, .int .i64 g, .int .i64 h] t)) w.heap.size [(a, b), (c, d), (e, f), (g, h)] := by
  intro k hk
  match k, hk with
  | 0, _ => exact ⟨by simp, by simp⟩
  | 1, _ => exact ⟨by simp, by simp⟩
  | 2, _ => exact ⟨by simp, by simp⟩
  | 3, _ => exact ⟨by simp, by simp⟩
theorem OwnS.set0 {B : Nat} {w : World} {b k : Nat} {ys : List Nat} {v : Nat} (h : OwnS B w (some ⟨b, 0, none⟩) (ys.map fv)) (hk : k < ys.length) : OwnS B (w.setCell ⟨b, k, none⟩ (.float .f32 v)) (some ⟨b, 0, none⟩) ((ys.set k v).map fv) := by
  have := OwnS.set (v := fv v) h (k := k) (by rw [List.length_map]; exact hk)
  rw [Nat.zero_add] at this
  rw [List.map_set]
  exact this
theorem own_at {B : Nat} {w : World} {b j : Nat} {ys : List Nat} (h : OwnS B w (some ⟨b, 0, none⟩) (ys.map fv)) (hj : j < ys.length) : w.cell? ⟨b, j, none⟩ = some (.float .f32 ys[j]) ∧ w.frozen? ⟨b, j, none⟩ = false := by
  obtain ⟨b1, o1, e1, _, hc⟩ := (show FRd w (some ⟨b, 0, none⟩) ys from h.1).at_ hj
  obtain ⟨b2, o2, e2, _, _, hf⟩ := h.2.1 j (by simpa using hj)
  injection e1 with e1
  injection e1 with e11 e12
  injection e2 with e2
  injection e2 with e21 e22
  subst e11; subst e12; subst e21; subst e22
  rw [Nat.zero_add] at hc hf
  exact ⟨hc, hf⟩
theorem cl_four (xs : List Nat) (h : xs.length = 4) : cl xs = [cn .f32 xs[0], cn .f32 xs[1], cn .f32 xs[2], cn .f32 xs[3]] := by
  match xs, h with
  | [a, b, c, d], _ => rfl
theorem inb_nat {n x y : Nat} (hx : x < n) (hy : y < n) : inb n x y = true := by
  unfold inb
  simp only [Bool.and_eq_true, decide_eq_true_eq]
  omega
theorem quo_bd {x h : Nat} (h1 : (1 : Int) ≤ h) (hx : x ≤ 40) : 0 ≤ (x : Int) / h ∧ (x : Int) / h ≤ 40 := by
  have e := Int.mul_ediv_add_emod (x : Int) h
  have m := Int.emod_nonneg (x : Int) (b := (h : Int)) (by omega)
  have q : 0 ≤ (x : Int) / h := Int.ediv_nonneg (by omega) (by omega)
  refine ⟨q, ?_⟩
  have : 1 * ((x : Int) / h) ≤ (h : Int) * ((x : Int) / h) := Int.mul_le_mul_of_nonneg_right h1 q
  omega
theorem par_eq {a b : Int} (h1 : 0 ≤ a) (h2 : a ≤ 40) (h3 : 0 ≤ b) (h4 : b ≤ 40) : (wrap64 (wrap64 a + wrap64 b)).tmod 2 = (a + b) % 2 := by
  rw [IntWalk.wrap64_in a (by omega), IntWalk.wrap64_in b (by omega), IntWalk.wrap64_in (a + b) (by omega), Int.tmod_eq_emod_of_nonneg (by omega)]
theorem dia_guard {p : Int} {xs : List Nat} {rf fd : Nat} {sd : Int} (hp : 1 ≤ p ∧ p ≤ 4) (hl : xs.length = 4) (hf : finL xs = true) (hr : finB (cn .f32 rf) = true) (hg : geB .f32 (cn .f32 rf) (cn .f32 0) = true) (hs : shareB (cn .f32 fd) = true) (h0 : 0 ≤ sd ∧ sd ≤ 2147483647) : diaG p (cl xs) (cn .f32 rf) (cn .f32 fd) sd = true := by
  have e : (cl xs).all finB = true := by
    rw [← hf]; unfold cl finL; rw [List.all_map]; rfl
  unfold diaG
  rw [decide_eq_true hp, decide_eq_true ((cl_len xs).trans hl), e, hr, hg, hs, decide_eq_true h0]
  rfl
theorem Keep.drew {S : Nat → Prop} {w w' : World} (h : Keep S w w') : Keep S w w'.drew := h.drewN 1
theorem made_f32 (N : Nat) : (madeCells #[.float .f32 0] N).toList = (List.replicate N 0).map fv := by
  apply List.ext_getElem
  · rw [Array.length_toList, size_madeCells]; simp
  · intro i h1 h2
    have hi : i < N := by simpa using h2
    simp [madeCells, Nat.mod_one, fv]
set_option maxRecDepth 100000 in
set_option maxHeartbeats 8000000 in
theorem implD_yes (p : Int) (A : Option Addr) (c : Nat) (xs : List Nat) (rf fd : Nat) (sd : Int) (w : World) (hA : FRd w A xs) (hp : 1 ≤ p ∧ p ≤ 4) (hl : xs.length = 4) (hf : finL xs = true) (hr : finB (cn .f32 rf) = true) (hg : geB .f32 (cn .f32 rf) (cn .f32 0) = true) (hs : shareB (cn .f32 fd) = true) (h0 : 0 ≤ sd ∧ sd ≤ 2147483647) :
    Calls Try.prog 39 #[.int .i64 p, .slice A 4 c, .float .f32 rf, .float .f32 fd, .int .i64 sd] w (DiaR w p (cl xs) (cn .f32 rf) (cn .f32 fd) sd) := by
  have hf0 := Lib.hid hf
  obtain ⟨i0, hi, hz0, hz1, hz2⟩ := info_parts info.f32
  have hside := sideN_cases hp
  obtain ⟨p1, p4⟩ := hp
  obtain ⟨n, hn⟩ : ∃ n, n = sideN p := ⟨_, rfl⟩
  rw [← hn] at hside
  obtain ⟨N, hN⟩ : ∃ N, N = n * n := ⟨_, rfl⟩
  have e1 : wrap64 (wrap64 (2 ^ p.toNat) + 1) = (n : Int) := by
    rcases hside with ⟨rfl, h⟩ | ⟨rfl, h⟩ | ⟨rfl, h⟩ | ⟨rfl, h⟩ <;> rw [h] <;> decide +kernel
  have e2 : wrap64 ((n : Int) * n) = (N : Int) := by
    rcases hside with ⟨_, h⟩ | ⟨_, h⟩ | ⟨_, h⟩ | ⟨_, h⟩ <;> rw [hN, h] <;> decide +kernel
  have hn3 : 3 ≤ n ∧ n ≤ 17 ∧ 9 ≤ N ∧ N ≤ 289 := by
    rcases hside with ⟨_, h⟩ | ⟨_, h⟩ | ⟨_, h⟩ | ⟨_, h⟩ <;> rw [hN, h] <;> decide
  obtain ⟨hn3, hn17, hN9, hN289⟩ := hn3
  have HN := Lib.hid hN
  have HS := Lib.hid hside
  have Hn := Lib.hid hn
  clear hN hside hn
  obtain ⟨b0, o0, rfl, hb0, _⟩ := hA.at_ (k := 0) (by omega)
  obtain ⟨s0, s1⟩ := h0
  have hg' := hg
  unfold geB at hg'
  obtain ⟨w0, hw0⟩ : ∃ w0, w0 = w.alloc (.cells #[.int .i64 0, .int .i64 0, .slice none 0 0] 33) := ⟨_, rfl⟩
  have k0 : Below w.heap.size w w0 := by rw [hw0]; exact below_alloc _ _
  have rb : BoxS w0 w.heap.size 0 0 none 0 0 := by rw [hw0]; exact boxS_new _ _ _ _ _ _ _ _ rfl
  have rf_ : ∀ i, w0.frozen? ⟨w.heap.size, i, none⟩ = false := by rw [hw0]; intro i; simp
  have hA1 : FRd w0 (some ⟨b0, o0, none⟩) xs := Rd.below hA k0
  go_enter Try.func39, Try.ntmps39
  go_wp2_with fail
  rw [← hw0]
  clear hw0
  refine (within_yes _ _ _ _ p1 p4).mono ?_
  rintro e w1 ⟨rfl, rfl⟩
  go_wp2_with fail
  have AF := areFinite_any (some ⟨b0, o0, none⟩) c xs w0 hA1 (by rw [hl]; decide)
  rw [hl, hf] at AF
  refine AF.mono ?_
  rintro e w1 ⟨rfl, n1, rfl⟩
  clear AF
  go_wp2_with fail
  refine (isFinite_any rf _).mono ?_
  rintro e w2 ⟨rfl, n2, rfl⟩
  rw [hr]
  go_wp2_with fail
  refine (isShare_any fd _).mono ?_
  rintro e w2 ⟨rfl, rfl⟩
  rw [hs]
  go_wp2_with fail
  refine (isSeed_any sd _).mono ?_
  rintro e w2 ⟨rfl, rfl⟩
  rw [decide_eq_true s0, decide_eq_true s1]
  go_wp2_with (first | (at_make; refine wpList_make_full _ rfl _ _ 28 rfl w0.heap.size 22 i0 (.float .f32 0) 1 Try.underlying28 hi hz0 hz1 .i64 .i64 (N : Int) (N : Int) N (by simp [Act.eval, e1, e2]) (by simp [Act.eval, e1, e2]) rfl rfl (by rw [hz2]; omega) (by unfold maxLen; omega) (Nat.le_refl _) ?_))

  intro w1 hown hgrow
  have k01 : Below w0.heap.size w0 w1 := (below_drewN (Below.refl _ _) (n1 + n2)).grown hgrow (Nat.le_refl _) (fun k h => by cases h)
  go_wp2
  obtain ⟨w2, hw2⟩ : ∃ w2, w2 = w1.alloc (.cells #[.int .i64 n, .int .i64 n, .slice (some ⟨w0.heap.size, 0, none⟩) N N] 33) := ⟨_, rfl⟩
  have k2 : Below w1.heap.size w1 w2 := by rw [hw2]; exact below_alloc _ _
  have sb : BoxS w2 w1.heap.size n n (some ⟨w0.heap.size, 0, none⟩) N N := by rw [hw2]; exact boxS_new _ _ _ _ _ _ _ _ rfl
  rw [← hw2]
  clear hw2
  have K02 : Below w0.heap.size w0 w2 := Below.step k01 k2
  have hA2 : FRd w2 (some ⟨b0, o0, none⟩) xs := Rd.below hA1 K02
  have own : OwnS w0.heap.size w2 (some ⟨w0.heap.size, 0, none⟩) ((List.replicate N 0).map fv) := by
    have h := OwnS.below (OwnS.of_own hown) k2
    rw [made_f32] at h
    exact h
  have hz : w0.heap.size < w1.heap.size := own_lt hown w0.heap.size ⟨0, rfl⟩
  have hzw : w.heap.size < w0.heap.size := rb.lt
  have rb2 := rb.below K02
  have rf2 : ∀ i, w2.frozen? ⟨w.heap.size, i, none⟩ = false := fun i => (K02.frozen (by exact hzw)).trans (rf_ i)
  have K2 := Below.step k0 K02
  have hb0' : b0 < w0.heap.size := by obtain ⟨b', o', e, h, _⟩ := hA1.at_ (k := 0) (by omega); injection e with e; injection e with e1 e2; omega
  clear hown hgrow k01 k2 hA1 rb rf_ k0 K02
  have RB := Lib.hid (And.intro rb2 (And.intro rf2 K2))
  clear rb2 rf2 K2
  obtain ⟨m1, hm1⟩ : ∃ m1 : Nat, n - 1 = m1 := ⟨_, rfl⟩
  obtain ⟨m2, hm2⟩ : ∃ m2 : Nat, m1 * n = m2 := ⟨_, rfl⟩
  obtain ⟨m3, hm3⟩ : ∃ m3 : Nat, N - 1 = m3 := ⟨_, rfl⟩
  have t1 : (n : Int) - 1 = m1 := by omega
  have t2 : (m1 : Int) * n = m2 := by rw [← hm2]; push_cast; rfl
  have t3 : (N : Int) - 1 = m3 := by omega
  have t4 : (n : Int) * n = N := by rw [HN.out]; push_cast; rfl
  have u2 : m2 < N := by
    rw [← hm2, HN.out, ← hm1]
    exact Nat.mul_lt_mul_of_pos_right (by omega) (by omega)
  have v1 : IntKind.i64.wrap (m1 : Int) = m1 := IntWalk.i64_in _ (by omega)
  have v2 : IntKind.i64.wrap (m2 : Int) = m2 := IntWalk.i64_in _ (by omega)
  have v3 : IntKind.i64.wrap (m3 : Int) = m3 := IntWalk.i64_in _ (by omega)
  have v4 : IntKind.i64.wrap (N : Int) = N := IntWalk.i64_in _ (by omega)
  have i1 : (m1 : Int) < N := by
    have : n ≤ N := by rw [HN.out]; exact Nat.le_mul_of_pos_left n (by omega)
    omega
  have i2 : (m2 : Int) < N := by omega
  have i3 : (m3 : Int) < N := by omega
  have i0 : (0 : Int) < N := by omega
  have q0 : ∀ j, j < N → w2.cell? ⟨w0.heap.size, 0 + j, none⟩ = some (.float .f32 0) ∧ w2.frozen? ⟨w0.heap.size, 0 + j, none⟩ = false := fun j hj => by
    obtain ⟨b1, o1, e1, _, hc⟩ := (show FRd w2 (some ⟨w0.heap.size, 0, none⟩) (List.replicate N 0) from own.1).at_ (k := j) (by simpa using hj)
    obtain ⟨b2, o2, e2, _, _, hf⟩ := own.2.1 j (by simpa using hj)
    injection e1 with e1
    injection e1 with e11 e12
    injection e2 with e2
    injection e2 with e21 e22
    subst e11; subst e12; subst e21; subst e22
    exact ⟨by simpa using hc, hf⟩
  obtain ⟨c0, f0⟩ := q0 0 (by omega)
  obtain ⟨c1, f1⟩ := q0 m1 (by omega)
  obtain ⟨c2, f2⟩ := q0 m2 (by omega)
  obtain ⟨c3, f3⟩ := q0 m3 (by omega)
  rw [Nat.zero_add] at c0 c1 c2 c3 f0 f1 f2 f3
  have rd : ∀ k (h : k < xs.length), w2.cell? ⟨b0, o0 + k, none⟩ = some (.float .f32 xs[k]) := fun k h => by
    obtain ⟨b', o', e', hb, a1⟩ := hA2.at_ h
    injection e' with e'
    injection e' with e1' e2'
    subst e1'; subst e2'
    exact a1
  have a0 := rd 0 (by omega)
  have a1 := rd 1 (by omega)
  have a2 := rd 2 (by omega)
  have a3 := rd 3 (by omega)
  obtain ⟨s_, sb0, sb1, sb2⟩ := sb
  rw [Nat.add_zero] at a0
  clear rd q0
  have HXS := Lib.hid (cl_four xs hl)
  generalize xs[0] = x0 at a0 HXS
  generalize xs[1] = x1 at a1 HXS
  generalize xs[2] = x2 at a2 HXS
  generalize xs[3] = x3 at a3 HXS
  have hN0 : 0 < N := by omega
  have l1 : 0 < m1 := by omega
  have l2 : m1 < m2 := by
    have : m1 * 3 ≤ m1 * n := Nat.mul_le_mul_left _ hn3
    omega
  have l3 : m2 < m3 := by
    have h1 : m2 = N - n := by rw [← hm2, ← hm1, HN.out, Nat.sub_mul, Nat.one_mul]
    have h2 : n ≤ N := by rw [HN.out]; exact Nat.le_mul_of_pos_left n (by omega)
    omega
  have g1 : m1 ≠ 0 := by omega
  have g2 : m2 ≠ m1 := by omega
  have g3 : m2 ≠ 0 := by omega
  have g4 : m3 ≠ m2 := by omega
  have g5 : m3 ≠ m1 := by omega
  have g6 : m3 ≠ 0 := by omega
  have g1' := g1.symm
  have g2' := g2.symm
  have g3' := g3.symm
  have g4' := g4.symm
  have g5' := g5.symm
  have g6' := g6.symm
  have S5 : ∀ w', Keep (fun k => k = w0.heap.size) w2 w' → w'.cell? ⟨w1.heap.size, 2, none⟩ = some (.slice (some ⟨w0.heap.size, 0, none⟩) N N) ∧ w'.cell? ⟨b0, o0, none⟩ = some (.float .f32 x0) ∧ w'.cell? ⟨b0, o0 + 1, none⟩ = some (.float .f32 x1) ∧ w'.cell? ⟨b0, o0 + 2, none⟩ = some (.float .f32 x2) ∧ w'.cell? ⟨b0, o0 + 3, none⟩ = some (.float .f32 x3) := fun w' k =>
    ⟨(k.cell (p := ⟨w1.heap.size, 2, none⟩) s_ (by show ¬ w1.heap.size = w0.heap.size; omega)).trans sb2, (k.cell (p := ⟨b0, o0, none⟩) (by exact World.block_lt_of_cell? _ _ a0) (by show ¬ b0 = w0.heap.size; omega)).trans a0, (k.cell (p := ⟨b0, o0 + 1, none⟩) (by exact World.block_lt_of_cell? _ _ a1) (by show ¬ b0 = w0.heap.size; omega)).trans a1, (k.cell (p := ⟨b0, o0 + 2, none⟩) (by exact World.block_lt_of_cell? _ _ a2) (by show ¬ b0 = w0.heap.size; omega)).trans a2, (k.cell (p := ⟨b0, o0 + 3, none⟩) (by exact World.block_lt_of_cell? _ _ a3) (by show ¬ b0 = w0.heap.size; omega)).trans a3⟩
  go_cut [] from 73 to 106 (fun wx => wx = ((((w2.setCell ⟨w0.heap.size, 0, none⟩ (.float .f32 x0)).setCell ⟨w0.heap.size, m1, none⟩ (.float .f32 x1)).setCell ⟨w0.heap.size, m2, none⟩ (.float .f32 x2)).setCell ⟨w0.heap.size, m3, none⟩ (.float .f32 x3)).drew)
  case first =>
    go_region_held3 (fun w' => w'.cell? ⟨w1.heap.size, 2, none⟩ = some (.slice (some ⟨w0.heap.size, 0, none⟩) N N) ∧ w'.cell? ⟨b0, o0, none⟩ = some (.float .f32 x0) ∧ w'.cell? ⟨b0, o0 + 1, none⟩ = some (.float .f32 x1) ∧ w'.cell? ⟨b0, o0 + 2, none⟩ = some (.float .f32 x2) ∧ w'.cell? ⟨b0, o0 + 3, none⟩ = some (.float .f32 x3))
      (first | (with_reducible exact S5 _ (Keep.drew (Keep.refl (fun k => k = w0.heap.size) w2))) | (with_reducible exact S5 _ (Keep.drew (Keep.setCell (Keep.refl (fun k => k = w0.heap.size) w2) (.inl rfl) _))) | (with_reducible exact S5 _ (Keep.drew (Keep.setCell (Keep.setCell (Keep.refl (fun k => k = w0.heap.size) w2) (.inl rfl) _) (.inl rfl) _))) | (with_reducible exact S5 _ (Keep.drew (Keep.setCell (Keep.setCell (Keep.setCell (Keep.refl (fun k => k = w0.heap.size) w2) (.inl rfl) _) (.inl rfl) _) (.inl rfl) _))) | (with_reducible exact S5 _ (Keep.drew (Keep.setCell (Keep.setCell (Keep.setCell (Keep.setCell (Keep.refl (fun k => k = w0.heap.size) w2) (.inl rfl) _) (.inl rfl) _) (.inl rfl) _) (.inl rfl) _))))
      (first | fail)

    go_wp2
    go_meet
    case rel => exact rfl
  case rest =>
    obtain ⟨ys0, hys⟩ : ∃ ys0, ys0 = ((((List.replicate N 0).set 0 x0).set m1 x1).set m2 x2).set m3 x3 := ⟨_, rfl⟩
    have own3 : OwnS w0.heap.size wc (some ⟨w0.heap.size, 0, none⟩) (ys0.map fv) := by
      rw [hcut, hys, List.map_set, List.map_set, List.map_set, List.map_set]
      have o1 := own.set (k := 0) (v := fv x0) (by simpa using hN0)
      have o2 := o1.set (k := m1) (v := fv x1) (by simp; omega)
      have o3 := o2.set (k := m2) (v := fv x2) (by simp; omega)
      have o4 := o3.set (k := m3) (v := fv x3) (by simp; omega)
      simp only [Nat.zero_add] at o1 o2 o3 o4
      exact o4.drewN 1
    have k3 : Keep (fun k => k = w0.heap.size) w2 wc := by
      rw [hcut]
      exact Keep.drew (Keep.setCell (Keep.setCell (Keep.setCell (Keep.setCell (Keep.refl (fun k => k = w0.heap.size) w2) (.inl rfl) _) (.inl rfl) _) (.inl rfl) _) (.inl rfl) _)
    have sb3 := (BoxS.mk s_ sb0 sb1 sb2).keep k3 (by show ¬ w1.heap.size = w0.heap.size; omega)
    have rb3 := RB.out.1.keep k3 (by show ¬ w.heap.size = w0.heap.size; omega)
    have rf3 : ∀ i, wc.frozen? ⟨w.heap.size, i, none⟩ = false := fun i => (World.frozen?_of_block (w := w2) (k3.block w.heap.size RB.out.1.lt (by show ¬ w.heap.size = w0.heap.size; omega))).trans (RB.out.2.1 i)
    have K3 : Below w.heap.size w wc := k3.below RB.out.2.2 (by have := RB.out.1.lt; omega) (fun k h => by show w.heap.size ≤ k; rw [h]; omega)
    have hyl : ys0.length = N := by rw [hys]; simp
    have hz3 : w0.heap.size < wc.heap.size := Nat.lt_of_lt_of_le (by omega) k3.size
    clear hcut k3 own a0 a1 a2 a3 c0 c1 c2 c3 f0 f1 f2 f3 s_ sb0 sb1 sb2 S5 hA2
    clear e1 e2
    -- loops
    have hmn : Hid (n / 2 = m1 / 2) := Lib.hid (by rcases HS.out with ⟨_, h⟩ | ⟨_, h⟩ | ⟨_, h⟩ | ⟨_, h⟩ <;> omega)
    have hm8 : m1 / 2 ≤ 8 := by omega
    obtain ⟨T, hT⟩ : ∃ T, T = dhh n (cn .f32 fd) 9 ((m1 / 2 : Nat) : Int) (cn .f32 rf) (cl ys0, sd) := ⟨_, rfl⟩
    have HT := Lib.hid hT
    have HTT : Hid (T = diaT p (cl xs) (cn .f32 rf) (cn .f32 fd) sd) := Lib.hid (by
      have e0 : cn .f32 0 = 0 := by decide +kernel
      have hd : cl ys0 = dia0 n (cl xs) := by
        rw [hys, cl_set, cl_set, cl_set, cl_set, HXS.out]
        unfold dia0 cl
        rw [List.map_replicate, e0, hm1, hm2, ← HN.out, hm3]
        rfl
      rw [hT, hd]
      unfold diaT
      rw [← Hn.out, ← hmn.out]
      rfl)
    clear hT hys HXS t1 t2 t3 t4 u2 v1 v2 v3 v4 i1 i2 i3 i0 l1 l2 l3 g1 g2 g3 g4 g5 g6 g1' g2' g3' g4' g5' g6'
    go_wp2_with fail
    go_loopw [4, 15, 16] (fun sv rv hv wr => ∃ (f h R : Nat) (sq : Int) (ys : List Nat), hv = .int .i64 (h : Int) ∧ rv = .float .f32 R ∧ sv = .int .i64 sq ∧ 0 ≤ sq ∧ sq ≤ 2147483647 ∧ h ≤ 8 ∧ h ≤ f ∧ ys.length = N ∧ OwnS w0.heap.size wr (some ⟨w0.heap.size, 0, none⟩) (ys.map fv) ∧ Keep (fun k => k = w0.heap.size) wc wr ∧ Hid (dhh n (cn .f32 fd) f h (cn .f32 R) (cl ys, sq) = T)) (fun _ _ hv _ => (intOf hv).toNat)
    case atStart => exact ⟨9, m1 / 2, rf, sd, ys0, congrArg (Value.int .i64) (by omega), rfl, rfl, s0, s1, hm8, by omega, hyl, own3, Keep.refl _ _, Lib.hid HT.out.symm⟩
    case round =>
      clear own3 hyl HT
      obtain ⟨f, h, R, sq, ys, rfl, rfl, rfl, q0, q1, h8, hf, hyl, hO, hK, HT⟩ := hrel
      by_cases hh : 1 ≤ h
      · obtain ⟨f, rfl⟩ : ∃ f', f = f' + 1 := ⟨f - 1, by omega⟩
        have hh1 : (1 : Int) ≤ h := by omega
        have HT := Lib.hid ((dhh_go (n := n) (fd := cn .f32 fd) (f := f) (h := h) (r := cn .f32 R) (st := (cl ys, sq)) hh1).symm.trans HT.out)
        obtain ⟨wo, hwo⟩ : ∃ wo, wo = wr := ⟨_, rfl⟩
        rw [← hwo] at hO hK
        rw [← hwo]
        clear hwo
        go_wp2_with fail
        go_loopw [4, 17] (fun sv yv wr => ∃ (f y : Nat) (sq1 : Int) (ys1 : List Nat), yv = .int .i64 (y : Int) ∧ sv = .int .i64 sq1 ∧ 0 ≤ sq1 ∧ sq1 ≤ 2147483647 ∧ y ≤ 33 ∧ n ≤ y + f ∧ ys1.length = N ∧ OwnS w0.heap.size wr (some ⟨w0.heap.size, 0, none⟩) (ys1.map fv) ∧ Keep (fun k => k = w0.heap.size) wc wr ∧ Hid (dy1 n (cn .f32 R) h f y (cl ys1, sq1) = dy1 n (cn .f32 R) h 17 h (cl ys, sq))) (fun _ yv _ => n - (intOf yv).toNat)
        case atStart => exact ⟨17, h, sq, ys, rfl, rfl, q0, q1, by omega, by omega, hyl, hO, hK, Lib.hid rfl⟩
        case round =>
          clear hO hK
          obtain ⟨f1, y, sq1, ys1, rfl, rfl, q0, q1, hy33, hf1, hyl1, hO, hK, HY⟩ := hrel
          by_cases hy : y < n
          · obtain ⟨f1, rfl⟩ : ∃ f', f1 = f' + 1 := ⟨f1 - 1, by omega⟩
            have hyn : (y : Int) < n := by omega
            have HY := Lib.hid ((dy1_go (n := n) (r := cn .f32 R) (h := h) (f := f1) (y := y) (st := (cl ys1, sq1)) hyn).symm.trans HY.out)
            obtain ⟨wo, hwo⟩ : ∃ wo, wo = wr := ⟨_, rfl⟩
            rw [← hwo] at hO hK
            rw [← hwo]
            clear hwo
            go_wp2_with fail
            go_loopw [4, 18] (fun sv xv wr => ∃ (f x : Nat) (sq2 : Int) (ys2 : List Nat), xv = .int .i64 (x : Int) ∧ sv = .int .i64 sq2 ∧ 0 ≤ sq2 ∧ sq2 ≤ 2147483647 ∧ x ≤ 33 ∧ n ≤ x + f ∧ ys2.length = N ∧ OwnS w0.heap.size wr (some ⟨w0.heap.size, 0, none⟩) (ys2.map fv) ∧ Keep (fun k => k = w0.heap.size) wc wr ∧ Hid (dx1 n (cn .f32 R) h y f x (cl ys2, sq2) = dx1 n (cn .f32 R) h y 17 h (cl ys1, sq1))) (fun _ xv _ => n - (intOf xv).toNat)
            case atStart => exact ⟨17, h, sq1, ys1, rfl, rfl, q0, q1, by omega, by omega, hyl1, hO, hK, Lib.hid rfl⟩
            case round =>
              clear hO hK
              obtain ⟨f2, x, sq2, ys2, rfl, rfl, q0, q1, hx33, hf2, hyl2, hO, hK, HX⟩ := hrel
              by_cases hx : x < n
              · obtain ⟨f2, rfl⟩ : ∃ f', f2 = f' + 1 := ⟨f2 - 1, by omega⟩
                have hxn : (x : Int) < n := by omega
                have HX := Lib.hid ((dx1_go (n := n) (r := cn .f32 R) (h := h) (y := y) (f := f2) (x := x) (st := (cl ys2, sq2)) hxn).symm.trans HX.out)
                have nb := nextI_bd sq2
                have sR0 := fun w t => stR_new w t (-(h : Int)) (-(h : Int)) h (-(h : Int)) (-(h : Int)) h h h
                go_wp2_with fail
                refine (draw_any _ _ q0 q1).mono ?_
                rintro e w4 ⟨dv, n4, rfl, ed, hw4⟩
                have hO : OwnS w0.heap.size w4 (some ⟨w0.heap.size, 0, none⟩) (ys2.map fv) := by rw [hw4]; exact hO.drewN _
                have hK : Keep (fun k => k = w0.heap.size) wc w4 := by rw [hw4]; exact hK.drewN _
                clear hw4
                obtain ⟨s_, b0_, b1_, b2_⟩ := sb3.keep hK (by show ¬ w1.heap.size = w0.heap.size; omega)
                obtain ⟨w5, hw5⟩ : ∃ w5, w5 = w4.alloc (.cells #[.int .i64 (-(h : Int)), .int .i64 (-(h : Int)), .int .i64 h, .int .i64 (-(h : Int)), .int .i64 (-(h : Int)), .int .i64 h, .int .i64 h, .int .i64 h] 82) := ⟨_, rfl⟩
                have k5 : Below w4.heap.size w4 w5 := by rw [hw5]; exact below_alloc _ _
                have sR : StR w5 w4.heap.size (corn4 h) := by rw [hw5]; exact sR0 _ _
                have AR := around_any n (some ⟨w0.heap.size, 0, none⟩) N ys2 x y w4.heap.size (corn4 h) w5 (Rd.below hO.1 k5) hn17 (by rw [hyl2, HN.out]) rfl sR (by omega) (by omega) (by intro d hd; simp only [corn4, List.mem_cons, List.not_mem_nil, or_false] at hd; rcases hd with rfl | rfl | rfl | rfl <;> simp <;> omega)
                rw [hyl2] at AR
                have AR := Lib.hid AR
                go_wp2_with fail
                rw [← hw5]
                clear hw5 sR sR0
                refine AR.out.mono ?_
                rintro e w6 ⟨sm, kk, rfl, es, k6⟩
                have k46 := Below.step k5 k6
                have hO := hO.below k46
                have hK := hK.trans (Keep.of_below k46)
                obtain ⟨s_, b0_, b1_, b2_⟩ := (BoxS.mk s_ b0_ b1_ b2_).below k46
                clear k5 k6 k46 AR
                obtain ⟨j, hj⟩ : ∃ j : Nat, (y : Int) * n + x = j := ⟨y * n + x, by push_cast; rfl⟩
                obtain ⟨i0, i1, i2, i3⟩ | hbad := idx_in (inb_nat hx hy)
                rotate_left
                · omega
                have hjN : j < N := by rw [HN.out]; omega
                have hj1 : (j : Int) < N := by omega
                have hjl : j < ys2.length := by rw [hyl2]; exact hjN
                have px : Hid ((x : Int) + 2 * (h : Int) = ((x + 2 * h : Nat) : Int)) := Lib.hid (by omega)
                have p33 : x + 2 * h ≤ 33 := by omega
                have pf : n ≤ x + 2 * h + f2 := by omega
                have r1_ : -9223372036854775808 ≤ (y : Int) * n ∧ (y : Int) * n ≤ 9223372036854775807 := by omega
                have r2_ : -9223372036854775808 ≤ (j : Int) ∧ (j : Int) ≤ 9223372036854775807 := by omega
                have m1_ : IntKind.i64.wrap ((y : Int) * n) = (y : Int) * n := IntWalk.i64_in _ r1_
                have m2_ : IntKind.i64.wrap (j : Int) = j := IntWalk.i64_in _ r2_
                have m3_ : wrap64 ((y : Int) * n) = (y : Int) * n := IntWalk.wrap64_in _ r1_
                have m4_ : wrap64 (j : Int) = j := IntWalk.wrap64_in _ r2_
                clear r1_ r2_
                obtain ⟨cj, fj⟩ := own_at hO hjl
                generalize ys2[j] = vo at cj
                have HES := Lib.hid (And.intro es (And.intro ed hj))
                have HO := Lib.hid hO
                have HK := Lib.hid hK
                clear es ed i0 i1 i2 i3 hO hK
                go_wp2
                clear m1_ m2_ m3_ m4_
                rw [IntWalk.wrap64_in ((x : Int) + 2 * (h : Int)) (by omega)]
                refine ⟨⟨f2, x + 2 * h, nextI sq2, ys2.set j _, congrArg (Value.int .i64) px.out, rfl, nb.1, nb.2, p33, pf, by rw [List.length_set]; exact hyl2, OwnS.set0 (HO.out.drewN _) hjl, (HK.out.drewN _).setCell (.inl rfl) _, Lib.hid (dia_step1 _ (by simp only [cn_fres]) HES.out.1 HES.out.2.1 HES.out.2.2 HX.out)⟩, ?_⟩
                simp [intOf]
                omega
              · have HE := Lib.hid ((dx1_end (n := n) (r := cn .f32 R) (h := h) (y := y) (f := f2) (x := x) (st := (cl ys2, sq2)) (by omega)).symm.trans HX.out)
                clear HX
                go_wp2
                refine ⟨⟨f1, y + 2 * h, sq2, ys2, congrArg (Value.int .i64) (by omega), rfl, q0, q1, by omega, by omega, hyl2, hO, hK, Lib.hid (by rw [HE.out]; have e := HY.out; rw [show ((y + 2 * h : Nat) : Int) = (y : Int) + 2 * (h : Int) by omega]; exact e)⟩, ?_⟩
                simp [intOf]
                omega
          · have HE := Lib.hid ((dy1_end (n := n) (r := cn .f32 R) (h := h) (f := f1) (y := y) (st := (cl ys1, sq1)) (by omega)).symm.trans HY.out)
            clear HY
            have HT : Hid (dhh n (cn .f32 fd) f ((h : Int) / 2) (fop .mul .f32 (cn .f32 R) (cn .f32 fd)) (dy2 n (cn .f32 R) h 17 0 (cl ys1, sq1)) = T) := Lib.hid (by rw [HE.out]; exact HT.out)
            clear HE
            obtain ⟨wo, hwo⟩ : ∃ wo, wo = wr := ⟨_, rfl⟩
            rw [← hwo] at hO hK
            rw [← hwo]
            clear hwo
            go_wp2_with fail
            go_loopw [4, 23] (fun sv yv wr => ∃ (f y : Nat) (sq2 : Int) (ys2 : List Nat), yv = .int .i64 (y : Int) ∧ sv = .int .i64 sq2 ∧ 0 ≤ sq2 ∧ sq2 ≤ 2147483647 ∧ y ≤ 33 ∧ n ≤ y + f ∧ ys2.length = N ∧ OwnS w0.heap.size wr (some ⟨w0.heap.size, 0, none⟩) (ys2.map fv) ∧ Keep (fun k => k = w0.heap.size) wc wr ∧ Hid (dy2 n (cn .f32 R) h f y (cl ys2, sq2) = dy2 n (cn .f32 R) h 17 0 (cl ys1, sq1))) (fun _ yv _ => n - (intOf yv).toNat)
            case atStart => exact ⟨17, 0, sq1, ys1, rfl, rfl, q0, q1, by omega, by omega, hyl1, hO, hK, Lib.hid rfl⟩
            case round =>
              clear hO hK hyl1 q0 q1 hf1
              obtain ⟨f1, y, sq2, ys2, rfl, rfl, q0, q1, hy33, hf1, hyl2, hO, hK, HY⟩ := hrel
              by_cases hy : y < n
              · obtain ⟨f1, rfl⟩ : ∃ f', f1 = f' + 1 := ⟨f1 - 1, by omega⟩
                have hyn : (y : Int) < n := by omega
                have HY := Lib.hid ((dy2_go (n := n) (r := cn .f32 R) (h := h) (f := f1) (y := y) (st := (cl ys2, sq2)) hyn).symm.trans HY.out)
                obtain ⟨wo, hwo⟩ : ∃ wo, wo = wr := ⟨_, rfl⟩
                rw [← hwo] at hO hK
                rw [← hwo]
                clear hwo
                go_wp2_with fail
                go_loopw [4, 24] (fun sv xv wr => ∃ (f x : Nat) (sq3 : Int) (ys3 : List Nat), xv = .int .i64 (x : Int) ∧ sv = .int .i64 sq3 ∧ 0 ≤ sq3 ∧ sq3 ≤ 2147483647 ∧ x ≤ 33 ∧ n ≤ x + f ∧ ys3.length = N ∧ OwnS w0.heap.size wr (some ⟨w0.heap.size, 0, none⟩) (ys3.map fv) ∧ Keep (fun k => k = w0.heap.size) wc wr ∧ Hid (dx2 n (cn .f32 R) h y f x (cl ys3, sq3) = dx2 n (cn .f32 R) h y 17 0 (cl ys2, sq2))) (fun _ xv _ => n - (intOf xv).toNat)
                case atStart => exact ⟨17, 0, sq2, ys2, rfl, rfl, q0, q1, by omega, by omega, hyl2, hO, hK, Lib.hid rfl⟩
                case round =>
                  clear hO hK hyl2 q0 q1
                  obtain ⟨f2, x, sq3, ys3, rfl, rfl, q0, q1, hx33, hf2, hyl3, hO, hK, HX⟩ := hrel
                  by_cases hx : x < n
                  · obtain ⟨f2, rfl⟩ : ∃ f', f2 = f' + 1 := ⟨f2 - 1, by omega⟩
                    have hxn : (x : Int) < n := by omega
                    obtain ⟨u1, u2⟩ := quo_bd (x := x) (h := h) hh1 (by omega)
                    obtain ⟨u3, u4⟩ := quo_bd (x := y) (h := h) hh1 (by omega)
                    by_cases hp : ((x : Int) / h + (y : Int) / h) % 2 = 0
                    · have HX := Lib.hid ((dx2_skip (n := n) (r := cn .f32 R) (h := h) (y := y) (f := f2) (x := x) (st := (cl ys3, sq3)) hxn hp).symm.trans HX.out)
                      have tp : ((wrap64 (wrap64 ((x : Int) / h) + wrap64 ((y : Int) / h))).tmod 2 == 0) = true := by
                        rw [par_eq u1 u2 u3 u4, hp]; rfl
                      clear hp u1 u2 u3 u4
                      go_wp2_with fail
                      go_quiet (fail)
                      go_wp2_with fail
                      refine ⟨⟨f2, x + h, sq3, ys3, congrArg (Value.int .i64) (by omega), rfl, q0, q1, by omega, by omega, hyl3, hO.drewN _, hK.drewN _, Lib.hid (by have e := HX.out; rw [show ((x + h : Nat) : Int) = (x : Int) + (h : Int) by omega]; exact e)⟩, ?_⟩
                      simp [intOf]
                      omega
                    · have HX := Lib.hid ((dx2_go (n := n) (r := cn .f32 R) (h := h) (y := y) (f := f2) (x := x) (st := (cl ys3, sq3)) hxn hp).symm.trans HX.out)
                      have tp : ((wrap64 (wrap64 ((x : Int) / h) + wrap64 ((y : Int) / h))).tmod 2 == 0) = false := by
                        rw [par_eq u1 u2 u3 u4]; simpa using hp
                      clear hp u1 u2 u3 u4
                      have nb := nextI_bd sq3
                      have sR0 := fun w t => stR_new w t 0 (-(h : Int)) (-(h : Int)) 0 h 0 0 h
                      go_wp2_with fail
                      go_quiet (fail)
                      go_wp2_with fail
                      clear tp
                      refine (draw_any _ _ q0 q1).mono ?_
                      rintro e w4 ⟨dv, n4, rfl, ed, hw4⟩
                      have hO : OwnS w0.heap.size w4 (some ⟨w0.heap.size, 0, none⟩) (ys3.map fv) := by rw [hw4]; exact (hO.drewN _).drewN _
                      have hK : Keep (fun k => k = w0.heap.size) wc w4 := by rw [hw4]; exact (hK.drewN _).drewN _
                      clear hw4
                      obtain ⟨s_, b0_, b1_, b2_⟩ := sb3.keep hK (by show ¬ w1.heap.size = w0.heap.size; omega)
                      obtain ⟨w5, hw5⟩ : ∃ w5, w5 = w4.alloc (.cells #[.int .i64 0, .int .i64 (-(h : Int)), .int .i64 (-(h : Int)), .int .i64 0, .int .i64 h, .int .i64 0, .int .i64 0, .int .i64 h] 82) := ⟨_, rfl⟩
                      have k5 : Below w4.heap.size w4 w5 := by rw [hw5]; exact below_alloc _ _
                      have sR : StR w5 w4.heap.size (sides4 h) := by rw [hw5]; exact sR0 _ _
                      have AR := around_any n (some ⟨w0.heap.size, 0, none⟩) N ys3 x y w4.heap.size (sides4 h) w5 (Rd.below hO.1 k5) hn17 (by rw [hyl3, HN.out]) rfl sR (by omega) (by omega) (by intro d hd; simp only [sides4, List.mem_cons, List.not_mem_nil, or_false] at hd; rcases hd with rfl | rfl | rfl | rfl <;> simp <;> omega)
                      rw [hyl3] at AR
                      have AR := Lib.hid AR
                      go_wp2_with fail
                      rw [← hw5]
                      clear hw5 sR sR0
                      refine AR.out.mono ?_
                      rintro e w6 ⟨sm, kk, rfl, es, k6⟩
                      have k46 := Below.step k5 k6
                      have hO := hO.below k46
                      have hK := hK.trans (Keep.of_below k46)
                      obtain ⟨s_, b0_, b1_, b2_⟩ := (BoxS.mk s_ b0_ b1_ b2_).below k46
                      clear k5 k6 k46 AR
                      obtain ⟨j, hj⟩ : ∃ j : Nat, (y : Int) * n + x = j := ⟨y * n + x, by push_cast; rfl⟩
                      obtain ⟨i0, i1, i2, i3⟩ | hbad := idx_in (inb_nat hx hy)
                      rotate_left
                      · omega
                      have hjN : j < N := by rw [HN.out]; omega
                      have hj1 : (j : Int) < N := by omega
                      have hjl : j < ys3.length := by rw [hyl3]; exact hjN
                      have px : Hid ((x : Int) + (h : Int) = ((x + h : Nat) : Int)) := Lib.hid (by omega)
                      have p33 : x + h ≤ 33 := by omega
                      have pf : n ≤ x + h + f2 := by omega
                      have r1_ : -9223372036854775808 ≤ (y : Int) * n ∧ (y : Int) * n ≤ 9223372036854775807 := by omega
                      have r2_ : -9223372036854775808 ≤ (j : Int) ∧ (j : Int) ≤ 9223372036854775807 := by omega
                      have m1_ : IntKind.i64.wrap ((y : Int) * n) = (y : Int) * n := IntWalk.i64_in _ r1_
                      have m2_ : IntKind.i64.wrap (j : Int) = j := IntWalk.i64_in _ r2_
                      have m3_ : wrap64 ((y : Int) * n) = (y : Int) * n := IntWalk.wrap64_in _ r1_
                      have m4_ : wrap64 (j : Int) = j := IntWalk.wrap64_in _ r2_
                      clear r1_ r2_
                      obtain ⟨cj, fj⟩ := own_at hO hjl
                      generalize ys3[j] = vo at cj
                      have HES := Lib.hid (And.intro es (And.intro ed hj))
                      have HO := Lib.hid hO
                      have HK := Lib.hid hK
                      clear es ed i0 i1 i2 i3 hO hK
                      go_wp2
                      clear m1_ m2_ m3_ m4_
                      try rw [IntWalk.wrap64_in ((x : Int) + (h : Int)) (by omega)]
                      refine ⟨⟨f2, x + h, nextI sq3, ys3.set j _, congrArg (Value.int .i64) px.out, rfl, nb.1, nb.2, p33, pf, by rw [List.length_set]; exact hyl3, OwnS.set0 (HO.out.drewN _) hjl, (HK.out.drewN _).setCell (.inl rfl) _, Lib.hid (dia_step2 _ (by simp only [cn_fres]) HES.out.1 HES.out.2.1 HES.out.2.2 HX.out)⟩, ?_⟩
                      simp [intOf]
                      omega
                  · have HE := Lib.hid ((dx2_end (n := n) (r := cn .f32 R) (h := h) (y := y) (f := f2) (x := x) (st := (cl ys3, sq3)) (by omega)).symm.trans HX.out)
                    clear HX
                    go_wp2
                    refine ⟨⟨f1, y + h, sq3, ys3, congrArg (Value.int .i64) (by omega), rfl, q0, q1, by omega, by omega, hyl3, hO, hK, Lib.hid (by rw [HE.out]; have e := HY.out; rw [show ((y + h : Nat) : Int) = (y : Int) + (h : Int) by omega]; exact e)⟩, ?_⟩
                    simp [intOf]
                    omega
              · have HE := Lib.hid ((dy2_end (n := n) (r := cn .f32 R) (h := h) (f := f1) (y := y) (st := (cl ys2, sq2)) (by omega)).symm.trans HY.out)
                clear HY
                have HT : Hid (dhh n (cn .f32 fd) f ((h : Int) / 2) (fop .mul .f32 (cn .f32 R) (cn .f32 fd)) (cl ys2, sq2) = T) := Lib.hid (by rw [HE.out]; exact HT.out)
                clear HE
                go_wp2
                refine ⟨⟨f, h / 2, _, sq2, ys2, congrArg (Value.int .i64) (by omega), rfl, rfl, q0, q1, by omega, by omega, hyl2, hO, hK.drewN _, Lib.hid (by rw [cn_fres]; have e := HT.out; rw [show ((h / 2 : Nat) : Int) = (h : Int) / 2 by omega]; exact e)⟩, ?_⟩
                simp [intOf]
                omega
      · have HE := Lib.hid ((dhh_end (n := n) (fd := cn .f32 fd) (f := f) (h := h) (r := cn .f32 R) (st := (cl ys, sq)) (by omega)).symm.trans HT.out)
        clear HT
        have hh' : ¬ (1 : Int) ≤ h := by omega
        have V := implValid_any n n (some ⟨w0.heap.size, 0, none⟩) N ys wr hO.1 (by rw [hyl]; unfold maxLen; omega)
        rw [hyl] at V
        have DB : Hid (diaB p (cl xs) (cn .f32 rf) (cn .f32 fd) sd = shB n n ys) := Lib.hid (by
          have e := HE.out.trans HTT.out
          rw [shC_cl]
          unfold diaB
          rw [← e, ← Hn.out, dia_guard ⟨p1, p4⟩ hl hf0.out hr hg hs ⟨s0, s1⟩, Bool.true_and])
        have DT : Hid ((cl ys, sq) = diaT p (cl xs) (cn .f32 rf) (cn .f32 fd) sd) := Lib.hid (HE.out.trans HTT.out)
        have HYL := Lib.hid hyl
        have HO := Lib.hid hO
        obtain ⟨s_, b0_, b1_, b2_⟩ := sb3.keep hK (by show ¬ w1.heap.size = w0.heap.size; omega)
        obtain ⟨r_, r0, r1, r2⟩ := rb3.keep hK (by show ¬ w.heap.size = w0.heap.size; omega)
        have q_ : ∀ i, wr.frozen? ⟨w.heap.size, i, none⟩ = false := fun i => (World.frozen?_of_block (w := wc) (hK.block w.heap.size rb3.lt (by show ¬ w.heap.size = w0.heap.size; omega))).trans (rf3 i)
        have KR : Below w.heap.size w wr := Keep.below K3 hK (by have := rb3.lt; omega) (fun k e => by rw [e]; omega)
        have V := Lib.hid V
        clear HE HTT hyl hO hK sb3 rb3 rf3 K3
        go_wp2_with fail
        refine V.out.mono ?_
        rintro e w7 ⟨rfl, k7⟩
        obtain ⟨s_, b0_, b1_, b2_⟩ := (BoxS.mk s_ b0_ b1_ b2_).below k7
        have f0 := (k7.frozen (p := ⟨w.heap.size, 0, none⟩) r_).trans (q_ 0)
        have f1 := (k7.frozen (p := ⟨w.heap.size, 1, none⟩) r_).trans (q_ 1)
        have f2 := (k7.frozen (p := ⟨w.heap.size, 2, none⟩) r_).trans (q_ 2)
        obtain ⟨r_, r0, r1, r2⟩ := (BoxS.mk r_ r0 r1 r2).below k7
        have KR := Below.step KR k7
        have O7 := Lib.hid (HO.out.below k7)
        clear k7 q_ HO
        cases hv : shB n n ys
        · go_wp2
          refine bodyPost_ret (v := .tuple #[shv 0 0 none 0 0, .int .i64 0, .bool false]) (by simp [results, Try.results39, go_sem, r0, r1, r2]) rfl ?_
          exact dia_no (DB.out.trans hv) (below_put3 KR (Nat.le_refl _))
        · go_wp2
          refine bodyPost_ret (v := .tuple #[shv n n (some ⟨w0.heap.size, 0, none⟩) N N, .int .i64 sq, .bool true]) (by simp [results, Try.results39, go_sem, r0, r1, r2]) rfl ?_
          have D : ∀ w', OwnS w.heap.size w' (some ⟨w0.heap.size, 0, none⟩) (ys.map fv) → Below w.heap.size w w' → DiaR w p (cl xs) (cn .f32 rf) (cn .f32 fd) sd (.returned (.tuple #[shv n n (some ⟨w0.heap.size, 0, none⟩) N N, .int .i64 sq, .bool true])) w' := fun w' ho k => by
            have D := dia_yes (w := w) (w' := w') (A := some ⟨w0.heap.size, 0, none⟩) (c := N) (xs := ys) (DB.out.trans hv) (congrArg Prod.fst DT.out) ho k
            rw [← Hn.out, ← DT.out, HYL.out] at D
            exact D
          exact D _ ((own_put3 O7.out hzw _ _ _).less (Nat.le_of_lt hzw)) (below_put3 KR (Nat.le_refl _))
end Go.Proofs.Ytenepnbickpcjaa
