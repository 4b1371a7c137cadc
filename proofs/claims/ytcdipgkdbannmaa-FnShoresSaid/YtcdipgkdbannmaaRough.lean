/- RoughnessOf, both sides. -/
import Derived.Test.YtcdipgkdbannmaaVarioLaw
import Derived.Test.YtcdipgkdbannmaaSlP
namespace Go.Proofs.Ytcdipgkdbannmaa
open Go.RowKit

theorem own_later {w w' : World} {base : Nat} {e : TypeId} {size : Nat} {v : Value} {n : Nat} {xs : List Value} (h : w.ownsRow base e size v n xs) (k : Below w.heap.size w w') : w'.ownsRow base e size v n xs := by
  refine ⟨h.1, ?_⟩
  rcases h.2 with h2 | ⟨g, cap, cur, hv, hg, hh, hr⟩
  · exact .inl h2
  · refine .inr ⟨g, cap, cur, hv, hg, ?_, hr⟩
    have hlt : g < w.heap.size := by
      rcases Nat.lt_or_ge g w.heap.size with hlt | hge
      · exact hlt
      · rw [Array.getElem?_eq_none hge] at hh; cases hh
    rw [k.block g hlt]
    exact hh
def rgL (xs : List Nat) (W H n : Nat) : Bool := (List.range n).all fun k => vaB xs W H (k + 1) && posB (vaX xs W H (k + 1))
def rgY (xs : List Nat) (W H n : Nat) : List Nat := (List.range n).map fun k => logF (vaX xs W H (k + 1))
theorem rgY_succ (xs : List Nat) (W H n : Nat) : rgY xs W H (n + 1) = rgY xs W H n ++ [logF (vaX xs W H (n + 1))] := by simp [rgY, List.range_succ]
theorem rgY_len (xs : List Nat) (W H n : Nat) : (rgY xs W H n).length = n := by simp [rgY]
theorem rgY_0 (xs : List Nat) (W H : Nat) : cl [] = rgY xs W H 0 := by simp [rgY, cl]
theorem rgL_0 (xs : List Nat) (W H : Nat) : rgL xs W H 0 = true := by simp [rgL]
theorem rgL_step {xs : List Nat} {W H n : Nat} (h : rgL xs W H n = true) (h1 : vaB xs W H (n + 1) = true) (h2 : posB (vaX xs W H (n + 1)) = true) : rgL xs W H (n + 1) = true := by
  unfold rgL at *
  rw [List.range_succ, List.all_append, h]
  simp [h1, h2]
theorem rgL_bad {xs : List Nat} {W H n m : Nat} (hn : n < m) (h : (vaB xs W H (n + 1) && posB (vaX xs W H (n + 1))) = false) : rgL xs W H m = false := by
  unfold rgL
  rw [List.all_eq_false]
  exact ⟨n, List.mem_range.2 hn, by simp only [h]; decide⟩
theorem va_fin {xs : List Nat} {W H n : Nat} (h : vaB xs W H n = true) : finB (vaX xs W H n) = true := by
  unfold vaB at h
  unfold vaX
  cases hn : vaNone W H n
  · rw [hn] at h
    simp at h
    simp only [Bool.false_eq_true, if_false, numX, h, if_true]
  · rw [hn] at h
    cases h
theorem two_start0 {G : Prop} (w : World) (e : TypeId)
    (h : ((w.alloc (.cells #[] e)).alloc (.cells #[] e)).ownsRow w.heap.size e 1 (.slice (some ⟨w.heap.size, 0, none⟩) 0 0) 0 [] → ((w.alloc (.cells #[] e)).alloc (.cells #[] e)).ownsRow w.heap.size e 1 (.slice (some ⟨w.heap.size + 1, 0, none⟩) 0 0) 0 [] →
      Apart (.slice (some ⟨w.heap.size + 1, 0, none⟩) 0 0) (.slice (some ⟨w.heap.size, 0, none⟩) 0 0) → Below w.heap.size w ((w.alloc (.cells #[] e)).alloc (.cells #[] e)) → G) : G :=
  h ((own_made_at w w.heap.size e w.heap.size rfl (Nat.le_refl _)).alloc _) (own_made_at (w.alloc (.cells #[] e)) w.heap.size e (w.heap.size + 1) (by rw [World.size_alloc]) (by rw [World.size_alloc]; omega)) (apart_new (by omega)) (Below.step (below_alloc _ _) (below_alloc _ _))
/-- The slope, halved. -/
def rgV (xs : List Nat) (W H m : Nat) : Nat := fop .quo .f32 (slS (logN m) (rgY xs W H m)) (cn .f32 1073741824)
def rgX (xs : List Nat) (W H m : Nat) : Nat := if rgL xs W H m then numX (rgV xs W H m) else cn .f32 0
def rgB (xs : List Nat) (W H m : Nat) : Bool := rgL xs W H m && finB (rgV xs W H m)
theorem rg_bad {xs : List Nat} {W H m : Nat} {w w' : World} (h : rgL xs W H m = false) (k : Below w.heap.size w w') : NumB w (rgX xs W H m) (rgB xs W H m) (.returned (.tuple #[.float .f32 0, .bool false])) w' :=
  ⟨0, by unfold rgB; rw [h]; rfl, by unfold rgX; rw [h]; rfl, k⟩

set_option maxRecDepth 100000 in
set_option maxHeartbeats 4000000 in
theorem implR_any (W H : Nat) (A : Option Addr) (c : Nat) (xs : List Nat) (M : Nat) (w : World) (hA : FRd w A xs) (hn : xs.length ≤ maxLen) (hs : shB W H xs = true) (h1 : 2 ≤ M) (h2 : M ≤ 17) :
    Calls Try.prog 26 #[shv W H A xs.length c, .int .i64 M] w (NumB w (rgX xs W H M) (rgB xs W H M)) := by
  obtain ⟨i0, hi, hz0, hz1, hz2⟩ := info_parts info.f32
  have hA1 := Rd.below hA (below_alloc _ (.cells #[.int .i64 W, .int .i64 H, .slice A xs.length c] 29))
  have hd : (decide ((2 : Int) ≤ (M : Int)) && decide ((M : Int) ≤ 17)) = true := by simp; omega
  have HD := Lib.hid hd
  clear hd
  go_enter Try.func26, Try.ntmps26
  go_wp2_with fail
  refine (implValid_any W H A c xs _ hA1 hn).mono ?_
  rintro e w1 ⟨rfl, k1⟩
  rw [hs]
  have e1 : w.heap.size < w1.heap.size := by have := k1.size; simp at this; omega
  have c0 : w1.cell? ⟨w.heap.size, 0, none⟩ = some (.int .i64 W) := (k1.cell (by simp)).trans (by simp)
  have c1 : w1.cell? ⟨w.heap.size, 1, none⟩ = some (.int .i64 H) := (k1.cell (by simp)).trans (by simp)
  have c2 : w1.cell? ⟨w.heap.size, 2, none⟩ = some (.slice A xs.length c) := (k1.cell (by simp)).trans (by simp)
  have hA2 := Rd.below hA1 k1
  have K1 := Below.step (below_alloc _ _) k1
  clear k1
  go_wp2_with fail
  refine (within_any _ _ _ _).mono ?_
  rintro e w2 ⟨rfl, rfl⟩
  rw [HD.out]
  go_wp2_with fail
  go_loopw [6, 7, 8] (fun u v i wr => ∃ (k : Nat) (ys zs : List Nat), k ≤ M ∧ i = .int .i64 ((k : Int) + 1) ∧ wr.ownsRow w1.heap.size 26 1 u k (ys.map fv) ∧ wr.ownsRow w1.heap.size 26 1 v k (zs.map fv) ∧ Apart v u ∧ Below w1.heap.size w1 wr ∧ Hid (cl ys = logN k) ∧ Hid (cl zs = rgY xs W H k) ∧ Hid (rgL xs W H k = true)) (fun _ _ i _ => M + 1 - (intOf i).toNat)
  case atStart => exact two_start0 w1 26 (fun o1 o2 ap kb => ⟨0, [], [], Nat.zero_le _, rfl, o1, o2, ap, kb, Lib.hid logN_0, Lib.hid (rgY_0 xs W H), Lib.hid (rgL_0 xs W H)⟩)
  case round =>
    obtain ⟨k, ys, zs, hk, rfl, hown, hown2, hap, hbel, HM, HN, HL⟩ := hrel
    have c0 := (hbel.cell (p := ⟨w.heap.size, 0, none⟩) e1).trans c0
    have c1 := (hbel.cell (p := ⟨w.heap.size, 1, none⟩) e1).trans c1
    have c2 := (hbel.cell (p := ⟨w.heap.size, 2, none⟩) e1).trans c2
    by_cases hlt : k < M
    · have hle : (k : Int) + 1 ≤ (M : Int) := by omega
      have hV := implV_any W H A c xs (k + 1) wr (Rd.below hA2 hbel) hn hs (by omega) (by omega)
      push_cast at hV
      go_wp2_with fail
      refine hV.mono ?_
      clear hV
      rintro e w2 ⟨b, rfl, hb, kb⟩
      have hown := own_later hown kb
      have hown2 := own_later hown2 kb
      have hbel := Below.step hbel kb
      have HB := Lib.hid hb
      clear hb kb
      cases hvb : vaB xs W H (k + 1)
      · have B := Lib.hid (rg_bad (w := w) (w' := w2) (rgL_bad hlt (by rw [hvb]; rfl)) (Below.step K1 hbel))
        clear hown hown2 hap HM HN HL
        go_wp2
        go_ret2
        exact B.out
      · cases hp : posB (vaX xs W H (k + 1))
        · have B := Lib.hid (rg_bad (w := w) (w' := w2) (rgL_bad hlt (by rw [hvb, hp]; rfl)) (Below.step K1 hbel))
          rw [← HB.out] at hp
          unfold posB at hp
          clear hown hown2 hap HM HN HL
          go_wp2
          go_ret2
          exact B.out
        · have hst := Lib.hid (rgL_step HL.out hvb hp)
          obtain ⟨q1, q2⟩ := num_pos k (by omega)
          have hfx : finB (cn .f32 b) = true := by rw [HB.out]; exact va_fin hvb
          have hg : ford .f32 (cn .f32 b) (cn .f32 0) = some .gt := by rw [HB.out]; unfold posB at hp; simpa using hp
          clear hp hvb
          go_wp2_with fail
          refine (logNumber_any _ _ q1 q2).mono ?_
          rintro e w3 ⟨b1, m1, rfl, g1, rfl⟩
          have G1 := Lib.hid g1
          clear g1
          go_wp2_with (at_builtin; refine wpList_push2 rfl _ _ 22 rfl w1.heap.size 26 i0 (.float .f32 0) 4 Try.underlying22 hi hz0 hz1 hz2 rfl _ k (ys.map fv) rfl hown _ rfl rfl (by unfold maxLen; omega) (by omega) hbel.size ?_)
          intro v' w' hown' hb' hoth
          obtain ⟨hown2', hap'⟩ := hoth _ _ _ _ hown2 hap
          have hb2 := (below_drewN hbel m1).trans hb'
          clear hb' hown hbel hown2 hap hoth
          go_wp2_with fail
          refine (logNumber_any _ _ hg hfx).mono ?_
          rintro e w3 ⟨b2, m2, rfl, g2, rfl⟩
          have G2 := Lib.hid g2
          clear g2
          go_wp2_with (at_builtin; refine wpList_push2 rfl _ _ 22 rfl w1.heap.size 26 i0 (.float .f32 0) 4 Try.underlying22 hi hz0 hz1 hz2 rfl _ k (zs.map fv) rfl hown2' _ rfl rfl (by unfold maxLen; omega) (by omega) hb2.size ?_)
          intro v2 w4 hown2 hb' hoth
          obtain ⟨hown, hap⟩ := hoth _ _ _ _ hown' hap'.symm
          have hb3 := (below_drewN hb2 m2).trans hb'
          clear hb' hown' hown2' hap' hoth hb2
          go_wp2
          go_roundw
          case rel => exact ⟨k + 1, ys ++ [b1], zs ++ [b2], by omega, by go_num, by rw [List.map_append]; exact hown, by rw [List.map_append]; exact hown2, hap.symm, hb3, Lib.hid (by rw [cl_snoc, HM.out, logN_succ, G1.out]), Lib.hid (by rw [cl_snoc, HN.out, rgY_succ, G2.out, HB.out]), hst⟩
          case measure => simp [intOf]; omega
    · obtain rfl : k = M := by omega
      have e1 := HM.out
      have e2 := HN.out
      have hgood := Lib.hid HL.out
      have ly : ys.length = k := by rw [← cl_len, e1, logN_len]
      have lz : zs.length = k := by rw [← cl_len, e2, rgY_len]
      obtain ⟨Y, cY, rfl⟩ := own_slice hown
      obtain ⟨Z, cZ, rfl⟩ := own_slice hown2
      have hY : FRd wr Y ys := Rd.of_own hown
      have hZ : FRd wr Z zs := Rd.of_own hown2
      have E1 := Lib.hid e1
      have E2 := Lib.hid e2
      have KW := Below.step K1 hbel
      clear e1 e2 HM HN HL hown hown2 hap c0 c1 c2
      have hs2 := slope_any Y Z cY cZ ys zs wr hY hZ (by omega) (by omega) (by omega)
      rw [ly, lz] at hs2
      clear ly lz
      go_wp2_with fail
      refine hs2.mono ?_
      clear hs2
      rintro e w2 ⟨s1, s2, s3, m2, rfl, g1, g2, g3, rfl⟩
      have G1 := Lib.hid g1
      clear g1 g2 g3
      go_wp2_with fail
      refine (ifNumber_any _ _).mono ?_
      rintro e w3 ⟨b3, n3, rfl, e3, rfl⟩
      have E3 := Lib.hid e3
      clear e3
      go_wp2
      go_ret2
      have hv : fop .quo .f32 (cn .f32 s1) (cn .f32 1073741824) = rgV xs W H k := by rw [G1.out, E1.out, E2.out]; rfl
      exact ⟨_, ret_num (by unfold rgB; rw [hgood.out, hv]; rfl), by rw [E3.out, cn_fres, hv]; unfold rgX; rw [hgood.out]; rfl, below_drewN KW _⟩
set_option maxRecDepth 100000 in
set_option maxHeartbeats 4000000 in
theorem specR_any (W H : Nat) (A : Option Addr) (c : Nat) (xs : List Nat) (M : Nat) (w : World) (hA : FRd w A xs) (hn : xs.length ≤ maxLen) (hs : shB W H xs = true) (h1 : 2 ≤ M) (h2 : M ≤ 17) :
    Calls Try.prog 25 #[shv W H A xs.length c, .int .i64 M] w (NumB w (rgX xs W H M) (rgB xs W H M)) := by
  obtain ⟨i0, hi, hz0, hz1, hz2⟩ := info_parts info.f32
  have hA1 := Rd.below hA (below_alloc _ (.cells #[.int .i64 W, .int .i64 H, .slice A xs.length c] 29))
  go_enter Try.func25, Try.ntmps25
  go_wp2_with fail
  refine (l05Is_any _ W H A c xs _ hA1 hn (by simp) (by simp) (by simp)).mono ?_
  rintro e w0 ⟨rfl, n, hw0⟩
  rw [hs]
  obtain ⟨w1, hw1⟩ : ∃ w1, w1 = w0 := ⟨_, rfl⟩
  rw [← hw1]
  rw [← hw1] at hw0
  have e1 : w.heap.size < w1.heap.size := by rw [hw0]; show w.heap.size < (w.alloc _).heap.size; rw [World.size_alloc]; omega
  have c0 : w1.cell? ⟨w.heap.size, 0, none⟩ = some (.int .i64 W) := by rw [hw0]; show (w.alloc _).cell? _ = _; simp
  have c1 : w1.cell? ⟨w.heap.size, 1, none⟩ = some (.int .i64 H) := by rw [hw0]; show (w.alloc _).cell? _ = _; simp
  have c2 : w1.cell? ⟨w.heap.size, 2, none⟩ = some (.slice A xs.length c) := by rw [hw0]; show (w.alloc _).cell? _ = _; simp
  have hA2 : FRd w1 A xs := by rw [hw0]; exact Rd.drewN hA1 n
  have K1 : Below w.heap.size w w1 := by rw [hw0]; exact below_drewN (below_alloc _ _) n
  clear hw0 hw1 hA1
  go_wp2_with fail
  refine (in_yes _ _ _ _ (by omega)).mono ?_
  rintro e w1 ⟨rfl, rfl⟩
  go_wp2_with fail
  go_loopw [6, 7, 8] (fun u v i wr => ∃ (k : Nat) (ys zs : List Nat), k ≤ M ∧ i = .int .i64 ((k : Int) + 1) ∧ wr.ownsRow w1.heap.size 26 1 u k (ys.map fv) ∧ wr.ownsRow w1.heap.size 26 1 v k (zs.map fv) ∧ Apart v u ∧ Below w1.heap.size w1 wr ∧ Hid (cl ys = logN k) ∧ Hid (cl zs = rgY xs W H k) ∧ Hid (rgL xs W H k = true)) (fun _ _ i _ => M + 1 - (intOf i).toNat)
  case atStart => exact two_start0 w1 26 (fun o1 o2 ap kb => ⟨0, [], [], Nat.zero_le _, rfl, o1, o2, ap, kb, Lib.hid logN_0, Lib.hid (rgY_0 xs W H), Lib.hid (rgL_0 xs W H)⟩)
  case round =>
    obtain ⟨k, ys, zs, hk, rfl, hown, hown2, hap, hbel, HM, HN, HL⟩ := hrel
    have c0 := (hbel.cell (p := ⟨w.heap.size, 0, none⟩) e1).trans c0
    have c1 := (hbel.cell (p := ⟨w.heap.size, 1, none⟩) e1).trans c1
    have c2 := (hbel.cell (p := ⟨w.heap.size, 2, none⟩) e1).trans c2
    by_cases hlt : k < M
    · have hle : (k : Int) + 1 ≤ (M : Int) := by omega
      have hV := (l05Variogram_any W H A c xs (k + 1) w.heap.size wr (Rd.below hA2 hbel) hs (by omega) (by omega) c0 c1 c2).mono (fun _ _ h => NumR.b h)
      push_cast at hV
      go_wp2_with fail
      refine hV.mono ?_
      clear hV
      rintro e w2 ⟨b, rfl, hb, kb⟩
      have hown := own_later hown kb
      have hown2 := own_later hown2 kb
      have hbel := Below.step hbel kb
      have HB := Lib.hid hb
      clear hb kb
      cases hvb : vaB xs W H (k + 1)
      · have B := Lib.hid (rg_bad (w := w) (w' := w2) (rgL_bad hlt (by rw [hvb]; rfl)) (Below.step K1 hbel))
        clear hown hown2 hap HM HN HL
        go_wp2
        go_ret2
        exact B.out
      · cases hp : posB (vaX xs W H (k + 1))
        · have B := Lib.hid (rg_bad (w := w) (w' := w2) (rgL_bad hlt (by rw [hvb, hp]; rfl)) (Below.step K1 hbel))
          rw [← HB.out] at hp
          unfold posB at hp
          clear hown hown2 hap HM HN HL
          go_wp2
          go_ret2
          exact B.out
        · have hst := Lib.hid (rgL_step HL.out hvb hp)
          obtain ⟨q1, q2⟩ := num_pos k (by omega)
          have hfx : finB (cn .f32 b) = true := by rw [HB.out]; exact va_fin hvb
          have hg : ford .f32 (cn .f32 b) (cn .f32 0) = some .gt := by rw [HB.out]; unfold posB at hp; simpa using hp
          clear hp hvb
          go_wp2_with fail
          refine (l01Log_any _ _ q1 q2).mono ?_
          rintro e w3 ⟨b1, m1, rfl, g1, rfl⟩
          have G1 := Lib.hid g1
          clear g1
          go_wp2_with (at_builtin; refine wpList_push2 rfl _ _ 22 rfl w1.heap.size 26 i0 (.float .f32 0) 4 Try.underlying22 hi hz0 hz1 hz2 rfl _ k (ys.map fv) rfl hown _ rfl rfl (by unfold maxLen; omega) (by omega) hbel.size ?_)
          intro v' w' hown' hb' hoth
          obtain ⟨hown2', hap'⟩ := hoth _ _ _ _ hown2 hap
          have hb2 := (below_drewN hbel m1).trans hb'
          clear hb' hown hbel hown2 hap hoth
          go_wp2_with fail
          refine (l01Log_any _ _ hg hfx).mono ?_
          rintro e w3 ⟨b2, m2, rfl, g2, rfl⟩
          have G2 := Lib.hid g2
          clear g2
          go_wp2_with (at_builtin; refine wpList_push2 rfl _ _ 22 rfl w1.heap.size 26 i0 (.float .f32 0) 4 Try.underlying22 hi hz0 hz1 hz2 rfl _ k (zs.map fv) rfl hown2' _ rfl rfl (by unfold maxLen; omega) (by omega) hb2.size ?_)
          intro v2 w4 hown2 hb' hoth
          obtain ⟨hown, hap⟩ := hoth _ _ _ _ hown' hap'.symm
          have hb3 := (below_drewN hb2 m2).trans hb'
          clear hb' hown' hown2' hap' hoth hb2
          go_wp2
          go_roundw
          case rel => exact ⟨k + 1, ys ++ [b1], zs ++ [b2], by omega, by go_num, by rw [List.map_append]; exact hown, by rw [List.map_append]; exact hown2, hap.symm, hb3, Lib.hid (by rw [cl_snoc, HM.out, logN_succ, G1.out]), Lib.hid (by rw [cl_snoc, HN.out, rgY_succ, G2.out, HB.out]), hst⟩
          case measure => simp [intOf]; omega
    · obtain rfl : k = M := by omega
      have e1 := HM.out
      have e2 := HN.out
      have hgood := Lib.hid HL.out
      have ly : ys.length = k := by rw [← cl_len, e1, logN_len]
      have lz : zs.length = k := by rw [← cl_len, e2, rgY_len]
      obtain ⟨Y, cY, rfl⟩ := own_slice hown
      obtain ⟨Z, cZ, rfl⟩ := own_slice hown2
      have hY : FRd wr Y ys := Rd.of_own hown
      have hZ : FRd wr Z zs := Rd.of_own hown2
      have E1 := Lib.hid e1
      have E2 := Lib.hid e2
      have KW := Below.step K1 hbel
      clear e1 e2 HM HN HL hown hown2 hap c0 c1 c2
      have hs2 := l05Slope_any Y Z cY cZ ys zs wr hY hZ (by omega) (by omega) (by omega)
      rw [ly, lz] at hs2
      clear ly lz
      go_wp2_with fail
      refine hs2.mono ?_
      clear hs2
      rintro e w2 ⟨s1, m2, rfl, g1, rfl⟩
      have G1 := Lib.hid g1
      clear g1
      go_wp2_with fail
      refine (l02Number_any _ _).mono ?_
      rintro e w3 ⟨b3, n3, rfl, e3, rfl⟩
      have E3 := Lib.hid e3
      clear e3
      go_wp2
      go_ret2
      have hv : fop .quo .f32 (cn .f32 s1) (cn .f32 1073741824) = rgV xs W H k := by rw [G1.out, E1.out, E2.out]; rfl
      exact ⟨_, ret_num (by unfold rgB; rw [hgood.out, hv]; rfl), by rw [E3.out, cn_fres, hv]; unfold rgX; rw [hgood.out]; rfl, below_drewN KW _⟩
end Go.Proofs.Ytcdipgkdbannmaa
