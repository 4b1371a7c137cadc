/- The walk of FnExactWeighSheets. -/
import Derived.Test.YtenepnbickpcjaaWeiS
import Derived.Deep.RegionHeld3
import Derived.BigRegion
import Derived.Deep.CutRange
namespace Go.Proofs.Ytenepnbickpcjaa
open Go.RowKit
theorem six_below {w w' : World} {p q : Nat} {sw sh tw th : Int} {A B : Option Addr} {n c m d : Nat} (k : Below w.heap.size w w') (hp : p < w.heap.size) (hq : q < w.heap.size)
    (h : w.cell? ⟨p, 0, none⟩ = some (.int .i64 sw) ∧ w.cell? ⟨p, 1, none⟩ = some (.int .i64 sh) ∧ w.cell? ⟨p, 2, none⟩ = some (.slice A n c) ∧ w.cell? ⟨q, 0, none⟩ = some (.int .i64 tw) ∧ w.cell? ⟨q, 1, none⟩ = some (.int .i64 th) ∧ w.cell? ⟨q, 2, none⟩ = some (.slice B m d)) :
    w'.cell? ⟨p, 0, none⟩ = some (.int .i64 sw) ∧ w'.cell? ⟨p, 1, none⟩ = some (.int .i64 sh) ∧ w'.cell? ⟨p, 2, none⟩ = some (.slice A n c) ∧ w'.cell? ⟨q, 0, none⟩ = some (.int .i64 tw) ∧ w'.cell? ⟨q, 1, none⟩ = some (.int .i64 th) ∧ w'.cell? ⟨q, 2, none⟩ = some (.slice B m d) := by
  obtain ⟨h0, h1, h2, h3, h4, h5⟩ := h
  exact ⟨(k.cell hp).trans h0, (k.cell hp).trans h1, (k.cell hp).trans h2, (k.cell hq).trans h3, (k.cell hq).trans h4, (k.cell hq).trans h5⟩
theorem boxS_put3 {w : World} {p : Nat} {u0 u1 u2 : Value} {sw sh : Int} {A : Option Addr} {n c : Nat} (hp : p < w.heap.size) (h0 : w.cell? ⟨p, 0, none⟩ = some u0) (h1 : w.cell? ⟨p, 1, none⟩ = some u1) (h2 : w.cell? ⟨p, 2, none⟩ = some u2) :
    BoxS (((w.setCell ⟨p, 0, none⟩ (.int .i64 sw)).setCell ⟨p, 1, none⟩ (.int .i64 sh)).setCell ⟨p, 2, none⟩ (.slice A n c)) p sw sh A n c := by
  refine ⟨by simpa using hp, ?_, ?_, ?_⟩
  · rw [World.cell?_setCell_other _ _ _ _ (by simp), World.cell?_setCell_other _ _ _ _ (by simp)]
    exact World.cell?_setCell_same _ _ _ h0
  · rw [World.cell?_setCell_other _ _ _ _ (by simp)]
    exact World.cell?_setCell_same _ _ _ ((World.cell?_setCell_other _ _ _ _ (by simp)).trans h1)
  · exact World.cell?_setCell_same _ _ _ ((World.cell?_setCell_other _ _ _ _ (by simp)).trans ((World.cell?_setCell_other _ _ _ _ (by simp)).trans h2))
theorem six_put {w : World} {p q g : Nat} {x y z : Value} {sw sh tw th : Int} {A B : Option Addr} {n c m d : Nat}
    (h : w.cell? ⟨p, 0, none⟩ = some (.int .i64 sw) ∧ w.cell? ⟨p, 1, none⟩ = some (.int .i64 sh) ∧ w.cell? ⟨p, 2, none⟩ = some (.slice A n c) ∧ w.cell? ⟨q, 0, none⟩ = some (.int .i64 tw) ∧ w.cell? ⟨q, 1, none⟩ = some (.int .i64 th) ∧ w.cell? ⟨q, 2, none⟩ = some (.slice B m d)) (hp : p ≠ g) (hq : q ≠ g) :
    (((w.setCell ⟨g, 0, none⟩ x).setCell ⟨g, 1, none⟩ y).setCell ⟨g, 2, none⟩ z).cell? ⟨p, 0, none⟩ = some (.int .i64 sw) ∧ (((w.setCell ⟨g, 0, none⟩ x).setCell ⟨g, 1, none⟩ y).setCell ⟨g, 2, none⟩ z).cell? ⟨p, 1, none⟩ = some (.int .i64 sh) ∧ (((w.setCell ⟨g, 0, none⟩ x).setCell ⟨g, 1, none⟩ y).setCell ⟨g, 2, none⟩ z).cell? ⟨p, 2, none⟩ = some (.slice A n c) ∧ (((w.setCell ⟨g, 0, none⟩ x).setCell ⟨g, 1, none⟩ y).setCell ⟨g, 2, none⟩ z).cell? ⟨q, 0, none⟩ = some (.int .i64 tw) ∧ (((w.setCell ⟨g, 0, none⟩ x).setCell ⟨g, 1, none⟩ y).setCell ⟨g, 2, none⟩ z).cell? ⟨q, 1, none⟩ = some (.int .i64 th) ∧ (((w.setCell ⟨g, 0, none⟩ x).setCell ⟨g, 1, none⟩ y).setCell ⟨g, 2, none⟩ z).cell? ⟨q, 2, none⟩ = some (.slice B m d) := by
  have k : Keep (fun k => k = g) w (((w.setCell ⟨g, 0, none⟩ x).setCell ⟨g, 1, none⟩ y).setCell ⟨g, 2, none⟩ z) := (((Keep.refl (fun k => k = g) w).setCell (.inl rfl) x).setCell (.inl rfl) y).setCell (.inl rfl) z
  obtain ⟨h0, h1, h2, h3, h4, h5⟩ := h
  have lp := World.block_lt_of_cell? _ _ h0
  have lq := World.block_lt_of_cell? _ _ h3
  exact ⟨(k.cell (p := ⟨p, 0, none⟩) lp hp).trans h0, (k.cell (p := ⟨p, 1, none⟩) lp hp).trans h1, (k.cell (p := ⟨p, 2, none⟩) lp hp).trans h2, (k.cell (p := ⟨q, 0, none⟩) lq hq).trans h3, (k.cell (p := ⟨q, 1, none⟩) lq hq).trans h4, (k.cell (p := ⟨q, 2, none⟩) lq hq).trans h5⟩
/-- A box that is made ahead of what is laid into it. -/
def BoxZ (w : World) (p : Nat) : Prop := p < w.heap.size ∧ w.cell? ⟨p, 0, none⟩ = some (.int .i64 0) ∧ w.cell? ⟨p, 1, none⟩ = some (.int .i64 0) ∧ w.cell? ⟨p, 2, none⟩ = some (.slice none 0 0) ∧ ∀ i, w.frozen? ⟨p, i, none⟩ = false
theorem BoxZ.below {w w' : World} {p : Nat} (h : BoxZ w p) (k : Below w.heap.size w w') : BoxZ w' p :=
  ⟨Nat.lt_of_lt_of_le h.1 k.size, (k.cell h.1).trans h.2.1, (k.cell h.1).trans h.2.2.1, (k.cell h.1).trans h.2.2.2.1, fun i => (k.frozen (by exact h.1)).trans (h.2.2.2.2 i)⟩
theorem boxz_new (w : World) (t : TypeId) : BoxZ (w.alloc (.cells #[.int .i64 0, .int .i64 0, .slice none 0 0] t)) w.heap.size := ⟨by simp, by simp, by simp, by simp, fun i => by simp⟩
theorem FRd.al {w : World} {o : Obj} {A : Option Addr} {xs : List Nat} (h : FRd w A xs) : FRd (w.alloc o) A xs := Rd.below h (below_alloc _ _)
theorem FRd.be {w w' : World} {A : Option Addr} {xs : List Nat} (h : FRd w A xs) (k : Below w.heap.size w w') : FRd w' A xs := Rd.below h k
theorem FRd.ald {w : World} {o : Obj} {A : Option Addr} {xs : List Nat} (h : FRd w A xs) : FRd (w.alloc o).drew A xs := FRd.al h
theorem lt_allocd {w : World} {o : Obj} {n : Nat} (h : n < w.heap.size) : n < (w.alloc o).drew.heap.size := Nat.lt_of_lt_of_le h (below_alloc w o).size
theorem below_allocd (w : World) (o : Obj) : Below w.heap.size w (w.alloc o).drew := (below_alloc w o).drew
theorem boxz_newd (w : World) (t : TypeId) : BoxZ (w.alloc (.cells #[.int .i64 0, .int .i64 0, .slice none 0 0] t)).drew w.heap.size := boxz_new w t
theorem lt_alloc {w : World} {o : Obj} {n : Nat} (h : n < w.heap.size) : n < (w.alloc o).heap.size := Nat.lt_of_lt_of_le h (below_alloc w o).size
theorem le_alloc {w : World} {o : Obj} {n : Nat} (h : (w.alloc o).heap.size ≤ n) : w.heap.size ≤ n := Nat.le_trans (below_alloc w o).size h
set_option maxRecDepth 100000 in
set_option maxHeartbeats 8000000 in
theorem weLaw (sw sh tw th : Int) (A B : Option Addr) (c d : Nat) (xs ys : List Nat) (x y : Nat) (w : World) (hA : FRd w A xs) (hB : FRd w B ys) (hn : xs.length ≤ maxLen) (hm : ys.length ≤ maxLen) :
    Calls Try.prog 9 #[shv sw sh A xs.length c, shv tw th B ys.length d, .float .f32 x, .float .f32 y] w fun e w' => e = .returned (.bool true) ∧ Below w.heap.size w w' := by
  have K : Below w.heap.size w ((w.alloc (.cells #[.int .i64 sw, .int .i64 sh, .slice A xs.length c] 30)).alloc (.cells #[.int .i64 tw, .int .i64 th, .slice B ys.length d] 30)) := Below.step (below_alloc _ _) (below_alloc _ _)
  have ba := (boxS_new w sw sh A xs.length c 30 _ rfl).below (below_alloc _ (.cells #[.int .i64 tw, .int .i64 th, .slice B ys.length d] 30))
  have bb := boxS_new (w.alloc (.cells #[.int .i64 sw, .int .i64 sh, .slice A xs.length c] 30)) tw th B ys.length d 30 (w.heap.size + 1) (by simp)
  by_cases hl : xs.length ≤ 1048576
  · by_cases hl2 : ys.length ≤ 1048576 - xs.length
    · have S : ∀ (A B : Option Addr) (c d : Nat) (w : World) (hA : FRd w A xs) (hB : FRd w B ys), Calls Try.prog 29 #[shv sw sh A xs.length c, shv tw th B ys.length d, .float .f32 x, .float .f32 y] w (WeR w sw sh tw th xs ys x y) := fun A B c d w hA hB => specW_any sw sh tw th A B xs ys c d x y w hA hB hn hm
      have I : ∀ (A B : Option Addr) (c d : Nat) (w : World) (hA : FRd w A xs) (hB : FRd w B ys), Calls Try.prog 30 #[shv sw sh A xs.length c, shv tw th B ys.length d, .float .f32 x, .float .f32 y] w (WeR w sw sh tw th xs ys x y) := fun A B c d w hA hB => implW_any sw sh tw th A B xs ys c d x y w hA hB hn hm
      unfold WeR at S I
      have hll : (if weB sw sh tw th xs ys x y then wgL (cn .f32 x) (cn .f32 y) (cl xs) (cl ys) else []).length ≤ 1048576 := by
        split
        · unfold wgL; rw [List.length_zipWith, cl_len, cl_len]; omega
        · exact Nat.zero_le _
      generalize (if weB sw sh tw th xs ys x y then sw else 0) = fw at S I
      generalize (if weB sw sh tw th xs ys x y then sh else 0) = fh at S I
      generalize (if weB sw sh tw th xs ys x y then wgL (cn .f32 x) (cn .f32 y) (cl xs) (cl ys) else []) = l at S I hll
      generalize weB sw sh tw th xs ys x y = ok at S I
      have hA0 := hA
      have hB0 := hB
      replace hA := Rd.below hA K
      replace hB := Rd.below hB K
      go_enter Try.func9, Try.ntmps9
      go_wp2_with fail
      refine (szSheet_few _ _ _ _ _ 1048576 _ (Nat.le_refl _) hl).mono ?_
      rintro e w1 ⟨rfl, k⟩
      replace ba := ba.below k
      replace bb := bb.below k
      replace hA := Rd.below hA k
      replace hB := Rd.below hB k
      replace K := Below.step K k
      clear k
      have bb_0 := bb.c0; have bb_1 := bb.c1; have bb_2 := bb.c2; have bb_3 := bb.lt
      go_wp2_with fail
      refine (szSheet_few _ _ _ _ _ (1048576 - xs.length) _ (by omega) hl2).mono ?_
      rintro e w2 ⟨rfl, k⟩
      clear bb_0 bb_1 bb_2 bb_3
      replace ba := ba.below k
      replace bb := bb.below k
      replace hA := Rd.below hA k
      replace hB := Rd.below hB k
      replace K := Below.step K k
      clear k
      have zw2 := bb.lt
      go_wp2_with fail
      have ba_0 := ba.c0; have ba_1 := ba.c1; have ba_2 := ba.c2; have ba_3 := ba.lt
      have bb_0 := bb.c0; have bb_1 := bb.c1; have bb_2 := bb.c2; have bb_3 := bb.lt
      have s0 := And.intro ba_0 (And.intro ba_1 (And.intro ba_2 (And.intro bb_0 (And.intro bb_1 bb_2))))
      have la := ba.lt; have lb := bb.lt
      go_cut [10, 11] from 31 to 40 (fun s10 s11 wx => ∃ q AA cc xx, s10 = .pointer (some ⟨q, 0, none⟩) ∧ s11 = .bool ok ∧ BoxS wx q fw fh AA xx.length cc ∧ cl xx = l ∧ OwnS w2.heap.size wx AA (xx.map fv) ∧ (¬ InA AA q) ∧ w2.heap.size ≤ q ∧ Below w2.heap.size w2 wx)
      case first =>
        have tok1 : True := trivial
        have hAf : FRd w2 A xs := hA
        have hBf : FRd w2 B ys := hB
        have hAd : FRd w2.drew A xs := by exact hA
        have hBd : FRd w2.drew B ys := by exact hB
        have lad : w.heap.size < w2.drew.heap.size := by exact la
        have lbd : w.heap.size + 1 < w2.drew.heap.size := by exact lb
        have kd : Below w2.heap.size w2 w2.drew := (Below.refl _ _).drew
        go_region_held3 (fun w' => w'.cell? ⟨w.heap.size, 0, none⟩ = some (.int .i64 sw) ∧ w'.cell? ⟨w.heap.size, 1, none⟩ = some (.int .i64 sh) ∧ w'.cell? ⟨w.heap.size, 2, none⟩ = some (.slice A xs.length c) ∧ w'.cell? ⟨w.heap.size + 1, 0, none⟩ = some (.int .i64 tw) ∧ w'.cell? ⟨w.heap.size + 1, 1, none⟩ = some (.int .i64 th) ∧ w'.cell? ⟨w.heap.size + 1, 2, none⟩ = some (.slice B ys.length d))
          (first | (with_reducible exact s3) | (with_reducible exact s2) | (with_reducible exact s1) | (exact s0) | (exact six_put s3 (by omega) (by omega)) | go_keep)
          (first
          | (go_at_call 18; have _t := tok1; clear tok1; refine (toSheet_any sw sh A c xs _ (by first | with_reducible exact hAd | with_reducible exact FRd.al hAd | with_reducible exact FRd.ald hAf) (by omega)).mono ?_; rintro e w3 ⟨A1, c1, rfl, oa1, k1⟩; have fa1 : FRd _ A1 xs := oa1.1; have s1 := six_below k1 (by first | with_reducible exact lad | with_reducible exact lt_alloc lad | with_reducible exact lt_allocd la) (by first | with_reducible exact lbd | with_reducible exact lt_alloc lbd | with_reducible exact lt_allocd lb) (by with_reducible assumption); have la1 : w.heap.size < w3.heap.size := (by first | with_reducible exact Nat.lt_of_lt_of_le lad k1.size | with_reducible exact Nat.lt_of_lt_of_le (lt_allocd la) k1.size); have lb1 : w.heap.size + 1 < w3.heap.size := (by first | with_reducible exact Nat.lt_of_lt_of_le lbd k1.size | with_reducible exact Nat.lt_of_lt_of_le (lt_allocd lb) k1.size); have hB1 : FRd w3 B ys := (by first | with_reducible exact FRd.be hBd k1 | with_reducible exact FRd.be (FRd.ald hBf) k1); have kk1 : Below w2.heap.size w2 w3 := (by first | with_reducible exact Below.step kd k1 | with_reducible exact Below.step (below_allocd _ _) k1); (first | (have bz1 := BoxZ.below bz0 k1) | (have bz1 : BoxZ _ _ := (by with_reducible exact (boxz_new _ _).below k1)) | (have bz1 : BoxZ _ _ := (by with_reducible exact (boxz_newd _ _).below k1)) | skip); clear k1)
          | (go_at_call 18; refine (toSheet_any tw th B d ys _ (by first | with_reducible exact hB1 | with_reducible exact FRd.al hB1) (by omega)).mono ?_; rintro e w4 ⟨B2, c2, rfl, ob2, k2⟩; have s2 := six_below k2 (by first | with_reducible exact la1 | with_reducible exact lt_alloc la1) (by first | with_reducible exact lb1 | with_reducible exact lt_alloc lb1) (by with_reducible assumption); have la2 : w.heap.size < w4.heap.size := (by first | with_reducible exact Nat.lt_of_lt_of_le la1 k2.size | with_reducible exact Nat.lt_of_lt_of_le (lt_alloc la1) k2.size); have lb2 : w.heap.size + 1 < w4.heap.size := (by first | with_reducible exact Nat.lt_of_lt_of_le lb1 k2.size | with_reducible exact Nat.lt_of_lt_of_le (lt_alloc lb1) k2.size); have oa2 : FRd w4 A1 xs := (by first | with_reducible exact FRd.be fa1 k2 | with_reducible exact FRd.be (FRd.al fa1) k2); have hb2 : FRd w4 B2 ys := ob2.1; have kk2 : Below w2.heap.size w2 w4 := (by first | with_reducible exact Below.step kk1 k2 | with_reducible exact Below.step (Below.step kk1 (below_alloc _ _)) k2); (first | (have bz2 := BoxZ.below bz1 k2) | (have bz2 : BoxZ _ _ := (by with_reducible exact (boxz_new _ _).below k2)) | (have bz2 : BoxZ _ _ := (by with_reducible exact (boxz_newd _ _).below k2)) | skip); clear k2 ob2)
          | (go_at_call 29; refine (S _ _ _ _ _ (by first | with_reducible exact oa2 | with_reducible exact FRd.al oa2) (by first | with_reducible exact hb2 | with_reducible exact FRd.al hb2)).mono ?_; rintro e w5 ⟨AW, cW, xW, rfl, eW, oW, k3⟩; have s3 := six_below k3 (by first | with_reducible exact la2 | with_reducible exact lt_alloc la2) (by first | with_reducible exact lb2 | with_reducible exact lt_alloc lb2) (by with_reducible assumption); have kk3 : Below w2.heap.size w2 w5 := (by first | with_reducible exact Below.step kk2 k3 | with_reducible exact Below.step (Below.step kk2 (below_alloc _ _)) k3); have ks := k3.size; (first | (have bz3 := BoxZ.below bz2 k3) | (have bz3 : BoxZ _ _ := (by with_reducible exact (boxz_new _ _).below k3)) | (have bz3 : BoxZ _ _ := (by with_reducible exact (boxz_newd _ _).below k3)) | skip); (first | (obtain ⟨z_, z0, z1, z2, zf⟩ := bz3; have zf0 := zf 0; have zf1 := zf 1; have zf2 := zf 2) | skip); clear k3))
        all_goals
          go_wp2
          try go_meet
          try case rel =>
            have zk1 := kk1.size
            have zk2 := kk2.size
            first
              | exact ⟨_, AW, cW, xW, rfl, rfl, boxS_new _ _ _ _ _ _ _ _ rfl, eW, (oW.below (below_alloc _ _)).less (by omega), fun h => by (have h1 := (oW.2.2 _ h).2; omega), by omega, Below.step kk3 (below_alloc _ _)⟩
              | exact ⟨_, AW, cW, xW, rfl, rfl, boxS_put3 z_ z0 z1 z2, eW, (own_put3 oW (by first | (have := bz2.1; omega) | (rw [World.size_alloc]; omega)) _ _ _).less (by first | omega | (rw [World.size_alloc]; omega)), fun h => by (have h1 := (oW.2.2 _ h).1; first | (have := bz2.1; omega) | (rw [World.size_alloc] at h1; omega)), by omega, below_put3 kk3 (by omega)⟩
      case rest =>
      obtain ⟨w5, rfl⟩ : ∃ w5, w5 = wc := ⟨wc, rfl⟩
      obtain ⟨pW, AW, cW, xW, rfl, rfl, nbW, eW, noW, pWn, pWz, kc⟩ := hcut
      have zw5 := kc.size
      clear s0 la lb
      clear ba_0 ba_1 ba_2 ba_3 bb_0 bb_1 bb_2 bb_3
      replace ba := ba.below kc
      replace bb := bb.below kc
      replace hA := Rd.below hA kc
      replace hB := Rd.below hB kc
      replace K := Below.step K kc
      have bW := nbW
      have oW := noW
      have pWl := bW.lt
      clear nbW noW kc
      have EW := Lib.hid eW
      have lW : xW.length ≤ 1048576 := by rw [← cl_len, eW]; exact hll
      clear eW S
      have hW : ∀ b, InA AW b → w2.heap.size ≤ b ∧ b < w5.heap.size := oW.2.2
      have ba_0 := ba.c0; have ba_1 := ba.c1; have ba_2 := ba.c2; have ba_3 := ba.lt
      go_wp2_with fail
      refine (toSheet_any _ _ _ _ _ _ hA (by omega)).mono ?_
      rintro e w6 ⟨A6, c6, rfl, oX, k⟩
      clear ba_0 ba_1 ba_2 ba_3
      have hX : ∀ b, InA A6 b → w5.heap.size ≤ b ∧ b < w6.heap.size := oX.2.2
      have zw6 := k.size
      replace ba := ba.below k
      replace bb := bb.below k
      replace bW := bW.below k
      replace oW := oW.below k
      replace hA := Rd.below hA k
      replace hB := Rd.below hB k
      replace K := Below.step K k
      clear k
      have bb_0 := bb.c0; have bb_1 := bb.c1; have bb_2 := bb.c2; have bb_3 := bb.lt
      go_wp2_with fail
      obtain ⟨v6, hv6⟩ : ∃ v, v = w6.alloc (.cells #[.int .i64 sw, .int .i64 sh, .slice A6 xs.length c6] 33) := ⟨_, rfl⟩
      have ka : Below w6.heap.size w6 v6 := by rw [hv6]; exact below_alloc _ _
      have nbX : BoxS v6 w6.heap.size sw sh A6 xs.length c6 := by rw [hv6]; exact boxS_new _ _ _ _ _ _ _ _ rfl
      have zv6 : v6.heap.size = w6.heap.size + 1 := by rw [hv6, World.size_alloc]
      rw [← hv6]
      clear hv6
      replace ba := ba.below ka
      replace bb := bb.below ka
      replace bW := bW.below ka
      replace oW := oW.below ka
      replace oX := oX.below ka
      replace hA := Rd.below hA ka
      replace hB := Rd.below hB ka
      replace K := Below.step K ka
      have bX := nbX
      clear ka nbX
      refine (toSheet_any _ _ _ _ _ _ hB (by omega)).mono ?_
      rintro e w7 ⟨B7, c7, rfl, oY, k⟩
      clear bb_0 bb_1 bb_2 bb_3
      have hY : ∀ b, InA B7 b → v6.heap.size ≤ b ∧ b < w7.heap.size := oY.2.2
      have zw7 := k.size
      replace ba := ba.below k
      replace bb := bb.below k
      replace bW := bW.below k
      replace bX := bX.below k
      replace oW := oW.below k
      replace oX := oX.below k
      replace hA := Rd.below hA k
      replace hB := Rd.below hB k
      replace K := Below.step K k
      clear k
      have bX_0 := bX.c0; have bX_1 := bX.c1; have bX_2 := bX.c2; have bX_3 := bX.lt
      go_wp2_with fail
      obtain ⟨v7, hv7⟩ : ∃ v, v = w7.alloc (.cells #[.int .i64 tw, .int .i64 th, .slice B7 ys.length c7] 33) := ⟨_, rfl⟩
      have ka : Below w7.heap.size w7 v7 := by rw [hv7]; exact below_alloc _ _
      have nbY : BoxS v7 w7.heap.size tw th B7 ys.length c7 := by rw [hv7]; exact boxS_new _ _ _ _ _ _ _ _ rfl
      have zv7 : v7.heap.size = w7.heap.size + 1 := by rw [hv7, World.size_alloc]
      rw [← hv7]
      clear hv7
      replace ba := ba.below ka
      replace bb := bb.below ka
      replace bW := bW.below ka
      replace bX := bX.below ka
      replace oW := oW.below ka
      replace oX := oX.below ka
      replace oY := oY.below ka
      replace hA := Rd.below hA ka
      replace hB := Rd.below hB ka
      replace K := Below.step K ka
      have bY := nbY
      clear ka nbY
      refine (I _ _ _ _ _ oX.1 oY.1).mono ?_
      rintro e w8 ⟨AG, cG, xG, rfl, eG, oG, k⟩
      clear bX_0 bX_1 bX_2 bX_3
      have EG := Lib.hid eG
      have lG : xG.length ≤ 1048576 := by rw [← cl_len, eG]; exact hll
      have hG : ∀ b, InA AG b → v7.heap.size ≤ b ∧ b < w8.heap.size := oG.2.2
      have zw8 := k.size
      clear eG
      replace ba := ba.below k
      replace bb := bb.below k
      replace bW := bW.below k
      replace bX := bX.below k
      replace bY := bY.below k
      replace oW := oW.below k
      replace oX := oX.below k
      replace oY := oY.below k
      replace hA := Rd.below hA k
      replace hB := Rd.below hB k
      replace K := Below.step K k
      clear k
      have bW_0 := bW.c0; have bW_1 := bW.c1; have bW_2 := bW.c2; have bW_3 := bW.lt
      go_wp2_with fail
      obtain ⟨v8, hv8⟩ : ∃ v, v = w8.alloc (.cells #[.int .i64 fw, .int .i64 fh, .slice AG xG.length cG] 33) := ⟨_, rfl⟩
      have ka : Below w8.heap.size w8 v8 := by rw [hv8]; exact below_alloc _ _
      have nbG : BoxS v8 w8.heap.size fw fh AG xG.length cG := by rw [hv8]; exact boxS_new _ _ _ _ _ _ _ _ rfl
      have zv8 : v8.heap.size = w8.heap.size + 1 := by rw [hv8, World.size_alloc]
      rw [← hv8]
      clear hv8
      replace ba := ba.below ka
      replace bb := bb.below ka
      replace bW := bW.below ka
      replace bX := bX.below ka
      replace bY := bY.below ka
      replace oW := oW.below ka
      replace oX := oX.below ka
      replace oY := oY.below ka
      replace oG := oG.below ka
      replace hA := Rd.below hA ka
      replace hB := Rd.below hB ka
      replace K := Below.step K ka
      have bG := nbG
      clear ka nbG
      clear bW_0 bW_1 bW_2 bW_3
      refine (eqSheet_ok fw fh AG AW cG cW xG xW _ oG.1 oW.1 (by unfold maxLen; omega) (by have a := EG.out; have b := EW.out; unfold cl at a b; rw [a, b])).mono ?_
      rintro e w9 ⟨rfl, k⟩
      have zw9 := k.size
      replace ba := ba.below k
      replace bb := bb.below k
      replace bW := bW.below k
      replace bX := bX.below k
      replace bY := bY.below k
      replace bG := bG.below k
      replace oW := oW.below k
      replace oX := oX.below k
      replace oY := oY.below k
      replace oG := oG.below k
      replace hA := Rd.below hA k
      replace hB := Rd.below hB k
      replace K := Below.step K k
      clear k
      go_wp2_with fail
      have ba_0 := ba.c0; have ba_1 := ba.c1; have ba_2 := ba.c2; have ba_3 := ba.lt
      have bX_0 := bX.c0; have bX_1 := bX.c1; have bX_2 := bX.c2; have bX_3 := bX.lt
      have s0 := And.intro ba_0 (And.intro ba_1 (And.intro ba_2 (And.intro bX_0 (And.intro bX_1 bX_2))))
      have la := ba.lt; have lb := bX.lt
      go_region_held3 (fun w' => w'.cell? ⟨w.heap.size, 0, none⟩ = some (.int .i64 sw) ∧ w'.cell? ⟨w.heap.size, 1, none⟩ = some (.int .i64 sh) ∧ w'.cell? ⟨w.heap.size, 2, none⟩ = some (.slice A xs.length c) ∧ w'.cell? ⟨w6.heap.size, 0, none⟩ = some (.int .i64 sw) ∧ w'.cell? ⟨w6.heap.size, 1, none⟩ = some (.int .i64 sh) ∧ w'.cell? ⟨w6.heap.size, 2, none⟩ = some (.slice A6 xs.length c6))
        (first | (exact s0) | (exact s1) | (exact s2))
        (first
        | (go_at_call 18; refine (toSheet_any sw sh A c xs _ (by exact hA) (by omega)).mono ?_; rintro e w10 ⟨A1, c1, rfl, o1, k1⟩; have s1 := six_below k1 (by exact la) (by exact lb) s0; have la1 := Nat.lt_of_lt_of_le la k1.size; have lb1 := Nat.lt_of_lt_of_le lb k1.size; have h1 := Rd.below (w := w9.drew) (by exact oX.1) k1; have kk1 : Below w9.heap.size w9 w10 := (Below.refl _ _).drew.trans k1; clear k1)
        | (go_at_call 20; refine (eqSheet_ok _ _ _ _ _ _ _ _ _ h1 o1.1 hn rfl).mono ?_; rintro e w11 ⟨rfl, k2⟩; have s2 := six_below k2 la1 lb1 s1; have kk2 : Below w9.heap.size w9 w11 := Below.step kk1 k2; clear k2))
      have zr9 := kk2.size
      clear s0 s1 s2 la lb la1 lb1 h1 o1 kk1
      clear ba_0 ba_1 ba_2 ba_3 bX_0 bX_1 bX_2 bX_3
      replace ba := ba.below kk2
      replace bb := bb.below kk2
      replace bW := bW.below kk2
      replace bX := bX.below kk2
      replace bY := bY.below kk2
      replace bG := bG.below kk2
      replace oW := oW.below kk2
      replace oX := oX.below kk2
      replace oY := oY.below kk2
      replace oG := oG.below kk2
      replace hA := Rd.below hA kk2
      replace hB := Rd.below hB kk2
      replace K := Below.step K kk2
      clear kk2
      go_wp2_with fail
      have bb_0 := bb.c0; have bb_1 := bb.c1; have bb_2 := bb.c2; have bb_3 := bb.lt
      have bY_0 := bY.c0; have bY_1 := bY.c1; have bY_2 := bY.c2; have bY_3 := bY.lt
      have s0 := And.intro bb_0 (And.intro bb_1 (And.intro bb_2 (And.intro bY_0 (And.intro bY_1 bY_2))))
      have la := bb.lt; have lb := bY.lt
      go_region_held3 (fun w' => w'.cell? ⟨w.heap.size + 1, 0, none⟩ = some (.int .i64 tw) ∧ w'.cell? ⟨w.heap.size + 1, 1, none⟩ = some (.int .i64 th) ∧ w'.cell? ⟨w.heap.size + 1, 2, none⟩ = some (.slice B ys.length d) ∧ w'.cell? ⟨w7.heap.size, 0, none⟩ = some (.int .i64 tw) ∧ w'.cell? ⟨w7.heap.size, 1, none⟩ = some (.int .i64 th) ∧ w'.cell? ⟨w7.heap.size, 2, none⟩ = some (.slice B7 ys.length c7))
        (first | (exact s0) | (exact s1) | (exact s2))
        (first
        | (go_at_call 18; refine (toSheet_any tw th B d ys _ (by exact hB) (by omega)).mono ?_; rintro e w12 ⟨A1, c1, rfl, o1, k1⟩; have s1 := six_below k1 (by exact la) (by exact lb) s0; have la1 := Nat.lt_of_lt_of_le la k1.size; have lb1 := Nat.lt_of_lt_of_le lb k1.size; have h1 := Rd.below (w := w11.drew) (by exact oY.1) k1; have kk1 : Below w11.heap.size w11 w12 := (Below.refl _ _).drew.trans k1; clear k1)
        | (go_at_call 20; refine (eqSheet_ok _ _ _ _ _ _ _ _ _ h1 o1.1 hm rfl).mono ?_; rintro e w13 ⟨rfl, k2⟩; have s2 := six_below k2 la1 lb1 s1; have kk2 : Below w11.heap.size w11 w13 := Below.step kk1 k2; clear k2))
      have zr11 := kk2.size
      clear s0 s1 s2 la lb la1 lb1 h1 o1 kk1
      clear bb_0 bb_1 bb_2 bb_3 bY_0 bY_1 bY_2 bY_3
      replace ba := ba.below kk2
      replace bb := bb.below kk2
      replace bW := bW.below kk2
      replace bX := bX.below kk2
      replace bY := bY.below kk2
      replace bG := bG.below kk2
      replace oW := oW.below kk2
      replace oX := oX.below kk2
      replace oY := oY.below kk2
      replace oG := oG.below kk2
      replace hA := Rd.below hA kk2
      replace hB := Rd.below hB kk2
      replace K := Below.step K kk2
      clear kk2
      have bX_0 := bX.c0; have bX_1 := bX.c1; have bX_2 := bX.c2; have bX_3 := bX.lt
      go_wp2_with fail
      refine (markSheet_any sw sh A6 xs.length c6 _ 1 rfl _ (by have := oX.2.1; simpa using this) (fun b h => (oX.2.2 b h).2) (by omega) (by omega)).mono ?_
      rintro e w14 ⟨rfl, k, _⟩
      clear bX_0 bX_1 bX_2 bX_3
      clear oX
      clear bX
      have zw14 := k.size
      replace ba := ba.keep k (fun h => by obtain ⟨h1, h2⟩ := hX _ h; omega)
      replace bb := bb.keep k (fun h => by obtain ⟨h1, h2⟩ := hX _ h; omega)
      replace bW := bW.keep k (fun h => by obtain ⟨h1, h2⟩ := hX _ h; omega)
      replace bY := bY.keep k (fun h => by obtain ⟨h1, h2⟩ := hX _ h; omega)
      replace bG := bG.keep k (fun h => by obtain ⟨h1, h2⟩ := hX _ h; omega)
      replace oW := oW.keep k (fun b h e => by obtain ⟨h1, h2⟩ := hX b e; obtain ⟨h3, h4⟩ := hW b h; omega)
      replace oY := oY.keep k (fun b h e => by obtain ⟨h1, h2⟩ := hX b e; obtain ⟨h3, h4⟩ := hY b h; omega)
      replace oG := oG.keep k (fun b h e => by obtain ⟨h1, h2⟩ := hX b e; obtain ⟨h3, h4⟩ := hG b h; omega)
      replace K := k.below K (by have := K.size; omega) (fun b h => by obtain ⟨h1, h2⟩ := hX _ h; omega)
      replace hA := Rd.below hA0 K
      replace hB := Rd.below hB0 K
      clear k
      have bY_0 := bY.c0; have bY_1 := bY.c1; have bY_2 := bY.c2; have bY_3 := bY.lt
      go_wp2_with fail
      refine (markSheet_any tw th B7 ys.length c7 _ (1 + xs.length) rfl _ (by have := oY.2.1; simpa using this) (fun b h => (oY.2.2 b h).2) (by omega) (by omega)).mono ?_
      rintro e w15 ⟨rfl, k, _⟩
      clear bY_0 bY_1 bY_2 bY_3
      clear oY
      clear bY
      have zw15 := k.size
      replace ba := ba.keep k (fun h => by obtain ⟨h1, h2⟩ := hY _ h; omega)
      replace bb := bb.keep k (fun h => by obtain ⟨h1, h2⟩ := hY _ h; omega)
      replace bW := bW.keep k (fun h => by obtain ⟨h1, h2⟩ := hY _ h; omega)
      replace bG := bG.keep k (fun h => by obtain ⟨h1, h2⟩ := hY _ h; omega)
      replace oW := oW.keep k (fun b h e => by obtain ⟨h1, h2⟩ := hY b e; obtain ⟨h3, h4⟩ := hW b h; omega)
      replace oG := oG.keep k (fun b h e => by obtain ⟨h1, h2⟩ := hY b e; obtain ⟨h3, h4⟩ := hG b h; omega)
      replace K := k.below K (by have := K.size; omega) (fun b h => by obtain ⟨h1, h2⟩ := hY _ h; omega)
      replace hA := Rd.below hA0 K
      replace hB := Rd.below hB0 K
      clear k
      have bG_0 := bG.c0; have bG_1 := bG.c1; have bG_2 := bG.c2; have bG_3 := bG.lt
      have bW_0 := bW.c0; have bW_1 := bW.c1; have bW_2 := bW.c2; have bW_3 := bW.lt
      go_wp2_with fail
      refine (eqSheet_ok fw fh AG AW cG cW xG xW _ oG.1 oW.1 (by unfold maxLen; omega) (by have a := EG.out; have b := EW.out; unfold cl at a b; rw [a, b])).mono ?_
      rintro e w16 ⟨rfl, k⟩
      clear bG_0 bG_1 bG_2 bG_3 bW_0 bW_1 bW_2 bW_3
      have zw16 := k.size
      replace ba := ba.below k
      replace bb := bb.below k
      replace bW := bW.below k
      replace bG := bG.below k
      replace oW := oW.below k
      replace oG := oG.below k
      replace hA := Rd.below hA k
      replace hB := Rd.below hB k
      replace K := Below.step K k
      clear k
      have bG_0 := bG.c0; have bG_1 := bG.c1; have bG_2 := bG.c2; have bG_3 := bG.lt
      go_wp2_with fail
      refine (markSheet_any fw fh AG xG.length cG _ 1 rfl _ (by have := oG.2.1; simpa using this) (fun b h => (oG.2.2 b h).2) (by omega) (by omega)).mono ?_
      rintro e w17 ⟨rfl, k, mG⟩
      clear bG_0 bG_1 bG_2 bG_3
      clear oG
      have zw17 := k.size
      replace ba := ba.keep k (fun h => by obtain ⟨h1, h2⟩ := hG _ h; omega)
      replace bb := bb.keep k (fun h => by obtain ⟨h1, h2⟩ := hG _ h; omega)
      replace bW := bW.keep k (fun h => by obtain ⟨h1, h2⟩ := hG _ h; omega)
      replace bG := bG.keep k (fun h => by obtain ⟨h1, h2⟩ := hG _ h; omega)
      replace oW := oW.keep k (fun b h e => by obtain ⟨h1, h2⟩ := hG b e; obtain ⟨h3, h4⟩ := hW b h; omega)
      replace K := k.below K (by have := K.size; omega) (fun b h => by obtain ⟨h1, h2⟩ := hG _ h; omega)
      replace hA := Rd.below hA0 K
      replace hB := Rd.below hB0 K
      clear k
      have bG_0 := bG.c0; have bG_1 := bG.c1; have bG_2 := bG.c2; have bG_3 := bG.lt
      go_wp2_with fail
      refine (heldSheet_ok fw fh AG xG.length cG _ 1 rfl _ mG (by omega) (by omega)).mono ?_
      rintro e w18 ⟨rfl, k⟩
      clear bG_0 bG_1 bG_2 bG_3
      replace ba := ba.below k
      replace bb := bb.below k
      replace bW := bW.below k
      replace bG := bG.below k
      replace oW := oW.below k
      replace hA := Rd.below hA k
      replace hB := Rd.below hB k
      replace mG := Rd.below mG k
      replace K := Below.step K k
      clear k
      go_wp2_with fail
      have ba_0 := ba.c0; have ba_1 := ba.c1; have ba_2 := ba.c2; have ba_3 := ba.lt
      have bb_0 := bb.c0; have bb_1 := bb.c1; have bb_2 := bb.c2; have bb_3 := bb.lt
      have s0 := And.intro ba_0 (And.intro ba_1 (And.intro ba_2 (And.intro bb_0 (And.intro bb_1 bb_2))))
      have la := ba.lt; have lb := bb.lt
      go_cut [19, 20] from 102 to 111 (fun s10 s11 wx => ∃ q AA cc xx, s10 = .pointer (some ⟨q, 0, none⟩) ∧ s11 = .bool ok ∧ BoxS wx q fw fh AA xx.length cc ∧ cl xx = l ∧ OwnS w18.heap.size wx AA (xx.map fv) ∧ (¬ InA AA q) ∧ w18.heap.size ≤ q ∧ Below w18.heap.size w18 wx)
      case first =>
        have tok1 : True := trivial
        have hAf : FRd w18 A xs := hA
        have hBf : FRd w18 B ys := hB
        have hAd : FRd w18.drew A xs := by exact hA
        have hBd : FRd w18.drew B ys := by exact hB
        have lad : w.heap.size < w18.drew.heap.size := by exact la
        have lbd : w.heap.size + 1 < w18.drew.heap.size := by exact lb
        have kd : Below w18.heap.size w18 w18.drew := (Below.refl _ _).drew
        go_region_held3 (fun w' => w'.cell? ⟨w.heap.size, 0, none⟩ = some (.int .i64 sw) ∧ w'.cell? ⟨w.heap.size, 1, none⟩ = some (.int .i64 sh) ∧ w'.cell? ⟨w.heap.size, 2, none⟩ = some (.slice A xs.length c) ∧ w'.cell? ⟨w.heap.size + 1, 0, none⟩ = some (.int .i64 tw) ∧ w'.cell? ⟨w.heap.size + 1, 1, none⟩ = some (.int .i64 th) ∧ w'.cell? ⟨w.heap.size + 1, 2, none⟩ = some (.slice B ys.length d))
          (first | (with_reducible exact s3) | (with_reducible exact s2) | (with_reducible exact s1) | (exact s0) | (exact six_put s3 (by omega) (by omega)) | go_keep)
          (first
          | (go_at_call 18; have _t := tok1; clear tok1; refine (toSheet_any sw sh A c xs _ (by first | with_reducible exact hAd | with_reducible exact FRd.al hAd | with_reducible exact FRd.ald hAf) (by omega)).mono ?_; rintro e w19 ⟨A1, c1, rfl, oa1, k1⟩; have fa1 : FRd _ A1 xs := oa1.1; have s1 := six_below k1 (by first | with_reducible exact lad | with_reducible exact lt_alloc lad | with_reducible exact lt_allocd la) (by first | with_reducible exact lbd | with_reducible exact lt_alloc lbd | with_reducible exact lt_allocd lb) (by with_reducible assumption); have la1 : w.heap.size < w19.heap.size := (by first | with_reducible exact Nat.lt_of_lt_of_le lad k1.size | with_reducible exact Nat.lt_of_lt_of_le (lt_allocd la) k1.size); have lb1 : w.heap.size + 1 < w19.heap.size := (by first | with_reducible exact Nat.lt_of_lt_of_le lbd k1.size | with_reducible exact Nat.lt_of_lt_of_le (lt_allocd lb) k1.size); have hB1 : FRd w19 B ys := (by first | with_reducible exact FRd.be hBd k1 | with_reducible exact FRd.be (FRd.ald hBf) k1); have kk1 : Below w18.heap.size w18 w19 := (by first | with_reducible exact Below.step kd k1 | with_reducible exact Below.step (below_allocd _ _) k1); (first | (have bz1 := BoxZ.below bz0 k1) | (have bz1 : BoxZ _ _ := (by with_reducible exact (boxz_new _ _).below k1)) | (have bz1 : BoxZ _ _ := (by with_reducible exact (boxz_newd _ _).below k1)) | skip); clear k1)
          | (go_at_call 18; refine (toSheet_any tw th B d ys _ (by first | with_reducible exact hB1 | with_reducible exact FRd.al hB1) (by omega)).mono ?_; rintro e w20 ⟨B2, c2, rfl, ob2, k2⟩; have s2 := six_below k2 (by first | with_reducible exact la1 | with_reducible exact lt_alloc la1) (by first | with_reducible exact lb1 | with_reducible exact lt_alloc lb1) (by with_reducible assumption); have la2 : w.heap.size < w20.heap.size := (by first | with_reducible exact Nat.lt_of_lt_of_le la1 k2.size | with_reducible exact Nat.lt_of_lt_of_le (lt_alloc la1) k2.size); have lb2 : w.heap.size + 1 < w20.heap.size := (by first | with_reducible exact Nat.lt_of_lt_of_le lb1 k2.size | with_reducible exact Nat.lt_of_lt_of_le (lt_alloc lb1) k2.size); have oa2 : FRd w20 A1 xs := (by first | with_reducible exact FRd.be fa1 k2 | with_reducible exact FRd.be (FRd.al fa1) k2); have hb2 : FRd w20 B2 ys := ob2.1; have kk2 : Below w18.heap.size w18 w20 := (by first | with_reducible exact Below.step kk1 k2 | with_reducible exact Below.step (Below.step kk1 (below_alloc _ _)) k2); (first | (have bz2 := BoxZ.below bz1 k2) | (have bz2 : BoxZ _ _ := (by with_reducible exact (boxz_new _ _).below k2)) | (have bz2 : BoxZ _ _ := (by with_reducible exact (boxz_newd _ _).below k2)) | skip); clear k2 ob2)
          | (go_at_call 30; refine (I _ _ _ _ _ (by first | with_reducible exact oa2 | with_reducible exact FRd.al oa2) (by first | with_reducible exact hb2 | with_reducible exact FRd.al hb2)).mono ?_; rintro e w21 ⟨AH, cH, xH, rfl, eH, oH, k3⟩; have s3 := six_below k3 (by first | with_reducible exact la2 | with_reducible exact lt_alloc la2) (by first | with_reducible exact lb2 | with_reducible exact lt_alloc lb2) (by with_reducible assumption); have kk3 : Below w18.heap.size w18 w21 := (by first | with_reducible exact Below.step kk2 k3 | with_reducible exact Below.step (Below.step kk2 (below_alloc _ _)) k3); have ks := k3.size; (first | (have bz3 := BoxZ.below bz2 k3) | (have bz3 : BoxZ _ _ := (by with_reducible exact (boxz_new _ _).below k3)) | (have bz3 : BoxZ _ _ := (by with_reducible exact (boxz_newd _ _).below k3)) | skip); (first | (obtain ⟨z_, z0, z1, z2, zf⟩ := bz3; have zf0 := zf 0; have zf1 := zf 1; have zf2 := zf 2) | skip); clear k3))
        all_goals
          go_wp2
          try go_meet
          try case rel =>
            have zk1 := kk1.size
            have zk2 := kk2.size
            first
              | exact ⟨_, AH, cH, xH, rfl, rfl, boxS_new _ _ _ _ _ _ _ _ rfl, eH, (oH.below (below_alloc _ _)).less (by omega), fun h => by (have h1 := (oH.2.2 _ h).2; omega), by omega, Below.step kk3 (below_alloc _ _)⟩
              | exact ⟨_, AH, cH, xH, rfl, rfl, boxS_put3 z_ z0 z1 z2, eH, (own_put3 oH (by first | (have := bz2.1; omega) | (rw [World.size_alloc]; omega)) _ _ _).less (by first | omega | (rw [World.size_alloc]; omega)), fun h => by (have h1 := (oH.2.2 _ h).1; first | (have := bz2.1; omega) | (rw [World.size_alloc] at h1; omega)), by omega, below_put3 kk3 (by omega)⟩
      case rest =>
      obtain ⟨w21, rfl⟩ : ∃ w5, w5 = wc := ⟨wc, rfl⟩
      obtain ⟨pH, AH, cH, xH, rfl, rfl, nbH, eH, noH, pHn, pHz, kc⟩ := hcut
      have zw21 := kc.size
      clear s0 la lb
      clear ba_0 ba_1 ba_2 ba_3 bb_0 bb_1 bb_2 bb_3
      replace ba := ba.below kc
      replace bb := bb.below kc
      replace bW := bW.below kc
      replace bG := bG.below kc
      replace oW := oW.below kc
      replace hA := Rd.below hA kc
      replace hB := Rd.below hB kc
      replace mG := Rd.below mG kc
      replace K := Below.step K kc
      have bH := nbH
      have oH := noH
      have pHl := bH.lt
      clear nbH noH kc
      have EH := Lib.hid eH
      have lH : xH.length ≤ 1048576 := by rw [← cl_len, eH]; exact hll
      clear eH I
      have bH_0 := bH.c0; have bH_1 := bH.c1; have bH_2 := bH.c2; have bH_3 := bH.lt
      have bW_0 := bW.c0; have bW_1 := bW.c1; have bW_2 := bW.c2; have bW_3 := bW.lt
      go_wp2_with fail
      refine (eqSheet_ok fw fh AH AW cH cW xH xW _ oH.1 oW.1 (by unfold maxLen; omega) (by have a := EH.out; have b := EW.out; unfold cl at a b; rw [a, b])).mono ?_
      rintro e w22 ⟨rfl, k⟩
      clear bH_0 bH_1 bH_2 bH_3 bW_0 bW_1 bW_2 bW_3
      have zw22 := k.size
      replace ba := ba.below k
      replace bb := bb.below k
      replace bW := bW.below k
      replace bG := bG.below k
      replace bH := bH.below k
      replace oW := oW.below k
      replace oH := oH.below k
      replace hA := Rd.below hA k
      replace hB := Rd.below hB k
      replace mG := Rd.below mG k
      replace K := Below.step K k
      clear k
      have bG_0 := bG.c0; have bG_1 := bG.c1; have bG_2 := bG.c2; have bG_3 := bG.lt
      go_wp2_with fail
      refine (heldSheet_ok fw fh AG xG.length cG _ 1 rfl _ mG (by omega) (by omega)).mono ?_
      rintro e w23 ⟨rfl, k⟩
      clear bG_0 bG_1 bG_2 bG_3
      replace ba := ba.below k
      replace bb := bb.below k
      replace bW := bW.below k
      replace bG := bG.below k
      replace bH := bH.below k
      replace oW := oW.below k
      replace oH := oH.below k
      replace hA := Rd.below hA k
      replace hB := Rd.below hB k
      replace mG := Rd.below mG k
      replace K := Below.step K k
      clear k
      go_wp2
      go_ret
      exact ⟨rfl, K⟩
    · go_enter Try.func9, Try.ntmps9
      go_wp2_with fail
      refine (szSheet_few _ _ _ _ _ 1048576 _ (Nat.le_refl _) hl).mono ?_
      rintro e w1 ⟨rfl, k1⟩
      obtain ⟨b_, b0, b1, b2⟩ := bb.below k1
      have K1 := Below.step K k1
      clear k1 K ba bb
      go_wp2_with fail
      refine (szSheet_many _ _ _ _ _ (1048576 - xs.length) _ (by omega) (by omega) hm).mono ?_
      rintro e w2 ⟨rfl, k2⟩
      have K2 := Below.step K1 k2
      clear k2 K1
      go_wp2
      go_ret
      exact ⟨rfl, K2⟩
  · go_enter Try.func9, Try.ntmps9
    go_wp2_with fail
    refine (szSheet_many _ _ _ _ _ 1048576 _ (Nat.le_refl _) (by omega) hn).mono ?_
    rintro e w1 ⟨rfl, k1⟩
    go_wp2
    go_ret
    exact ⟨rfl, Below.step K k1⟩
end Go.Proofs.Ytenepnbickpcjaa
