/- WeighSheets, the reference. -/
import Derived.Test.YtenepnbickpcjaaWei
namespace Go.Proofs.Ytenepnbickpcjaa
open Go.RowKit

/-- The reference's boxes. -/
structure Three (w0 w : World) (W H tw th : Int) (A B : Option Addr) (xs ys : List Nat) (c d : Nat) : Prop where
  K : Below w0.heap.size w0 w
  z : w0.heap.size + 3 ≤ w.heap.size
  sa : BoxS w w0.heap.size W H A xs.length c
  sb : BoxS w (w0.heap.size + 1) tw th B ys.length d
  rb : BoxS w (w0.heap.size + 2) 0 0 none 0 0
  rf : ∀ i, w.frozen? ⟨w0.heap.size + 2, i, none⟩ = false
  hA : FRd w A xs
  hB : FRd w B ys
theorem Three.step {w0 w w' : World} {W H tw th : Int} {A B : Option Addr} {xs ys : List Nat} {c d : Nat} (h : Three w0 w W H tw th A B xs ys c d) (k : Below w.heap.size w w') : Three w0 w' W H tw th A B xs ys c d :=
  ⟨Below.step h.K k, Nat.le_trans h.z k.size, h.sa.below k, h.sb.below k, h.rb.below k, fun i => (k.frozen (by show w0.heap.size + 2 < _; have := h.z; omega)).trans (h.rf i), Rd.below h.hA k, Rd.below h.hB k⟩
theorem Three.drewN {w0 w : World} {W H tw th : Int} {A B : Option Addr} {xs ys : List Nat} {c d : Nat} (h : Three w0 w W H tw th A B xs ys c d) (n : Nat) : Three w0 (w.drewN n) W H tw th A B xs ys c d := h.step (below_drewN (Below.refl _ _) _)
theorem Three.keep {w0 w w' : World} {W H tw th : Int} {A B : Option Addr} {xs ys : List Nat} {c d : Nat} {S : Nat → Prop} (h : Three w0 w W H tw th A B xs ys c d) (k : Keep S w w') (h1 : ∀ b, S b → w0.heap.size + 3 ≤ b) (h2 : ∀ b, InA A b → ¬ S b) (h3 : ∀ b, InA B b → ¬ S b) : Three w0 w' W H tw th A B xs ys c d :=
  ⟨k.below h.K (by have := h.z; omega) (fun b hb => by have := h1 b hb; omega), Nat.le_trans h.z k.size, h.sa.keep k (fun s => by have := h1 _ s; omega), h.sb.keep k (fun s => by have := h1 _ s; omega), h.rb.keep k (fun s => by have := h1 _ s; omega), fun i => (World.frozen?_of_block (k.block (w0.heap.size + 2) h.rb.lt (fun s => by have := h1 _ s; omega))).trans (h.rf i), Rd.keepA h.hA k (fun b h h' => h2 b h h'), Rd.keepA h.hB k (fun b h h' => h3 b h h')⟩
theorem three_new (w : World) (W H tw th : Int) (A B : Option Addr) (xs ys : List Nat) (c d : Nat) (hA : FRd w A xs) (hB : FRd w B ys) (t1 t2 t5 : TypeId) :
    Three w (((w.alloc (.cells #[.int .i64 W, .int .i64 H, .slice A xs.length c] t1)).alloc (.cells #[.int .i64 tw, .int .i64 th, .slice B ys.length d] t2)).alloc (.cells #[.int .i64 0, .int .i64 0, .slice none 0 0] t5)) W H tw th A B xs ys c d := by
  obtain ⟨u1, hu1⟩ : ∃ u, u = w.alloc (.cells #[.int .i64 W, .int .i64 H, .slice A xs.length c] t1) := ⟨_, rfl⟩
  obtain ⟨u2, hu2⟩ : ∃ u, u = u1.alloc (.cells #[.int .i64 tw, .int .i64 th, .slice B ys.length d] t2) := ⟨_, rfl⟩
  obtain ⟨u3, hu3⟩ : ∃ u, u = u2.alloc (.cells #[.int .i64 0, .int .i64 0, .slice none 0 0] t5) := ⟨_, rfl⟩
  rw [← hu1, ← hu2, ← hu3]
  have z1 : u1.heap.size = w.heap.size + 1 := by rw [hu1]; simp
  have z2 : u2.heap.size = w.heap.size + 2 := by rw [hu2, World.size_alloc, z1]
  have z3 : u3.heap.size = w.heap.size + 3 := by rw [hu3, World.size_alloc, z2]
  have k1 : Below w.heap.size w u1 := by rw [hu1]; exact below_alloc _ _
  have k2 : Below u1.heap.size u1 u2 := by rw [hu2]; exact below_alloc _ _
  have k3 : Below u2.heap.size u2 u3 := by rw [hu3]; exact below_alloc _ _
  have K := Below.step (Below.step k1 k2) k3
  have b1 : BoxS u1 w.heap.size W H A xs.length c := by rw [hu1]; exact boxS_new _ _ _ _ _ _ _ _ rfl
  have b2 : BoxS u2 (w.heap.size + 1) tw th B ys.length d := by rw [hu2]; exact boxS_new _ _ _ _ _ _ _ _ z1.symm
  have b3 : BoxS u3 (w.heap.size + 2) 0 0 none 0 0 := by rw [hu3]; exact boxS_new _ _ _ _ _ _ _ _ z2.symm
  refine ⟨K, by omega, (b1.below k2).below k3, b2.below k3, b3, fun i => ?_, Rd.below hA K, Rd.below hB K⟩
  rw [hu3, ← z2]
  simp
set_option maxRecDepth 100000 in
set_option maxHeartbeats 8000000 in
theorem specW_any (W H tw th : Int) (A B : Option Addr) (xs ys : List Nat) (c d x y : Nat) (w : World) (hA : FRd w A xs) (hB : FRd w B ys) (hn : xs.length ≤ maxLen) (hm : ys.length ≤ maxLen) :
    Calls Try.prog 29 #[shv W H A xs.length c, shv tw th B ys.length d, .float .f32 x, .float .f32 y] w (WeR w W H tw th xs ys x y) := by
  obtain ⟨w0, hw0⟩ : ∃ w0, w0 = (((w.alloc (.cells #[.int .i64 W, .int .i64 H, .slice A xs.length c] 33)).alloc (.cells #[.int .i64 tw, .int .i64 th, .slice B ys.length d] 33)).alloc (.cells #[.int .i64 0, .int .i64 0, .slice none 0 0] 33)) := ⟨_, rfl⟩
  have F : Three w w0 W H tw th A B xs ys c d := by rw [hw0]; exact three_new w W H tw th A B xs ys c d hA hB _ _ _
  go_enter Try.func29, Try.ntmps29
  go_wp2_with fail
  rw [← hw0]
  clear hw0 hA hB
  refine (l05Is_any _ W H A c xs _ F.hA hn F.sa.c0 F.sa.c1 F.sa.c2).mono ?_
  rintro e w1 ⟨rfl, n1, hw1⟩
  have F : Three w w1 W H tw th A B xs ys c d := by rw [hw1]; exact F.drewN _
  clear hw1
  cases hs1 : shB W H xs
  · have BB : Hid (weB W H tw th xs ys x y = false) := Lib.hid (by unfold weB; rw [hs1]; rfl)
    obtain ⟨r_, r0, r1, r2⟩ := F.rb
    have rf0 := F.rf 0
    have rf1 := F.rf 1
    have rf2 := F.rf 2
    have KK := Lib.hid F.K
    clear F
    go_wp2
    refine bodyPost_ret (v := .tuple #[shv 0 0 none 0 0, .bool false]) (by simp [results, Try.results29, go_sem, r0, r1, r2]) rfl ?_
    exact we_no BB.out (below_put3 KK.out (by omega))
  go_wp2_with fail
  refine (l05Is_any _ tw th B d ys _ F.hB hm F.sb.c0 F.sb.c1 F.sb.c2).mono ?_
  rintro e w2 ⟨rfl, n2, hw2⟩
  have F : Three w w2 W H tw th A B xs ys c d := by rw [hw2]; exact F.drewN _
  clear hw2
  cases hs2 : shB tw th ys
  · have BB : Hid (weB W H tw th xs ys x y = false) := Lib.hid (by unfold weB; rw [hs1, hs2]; rfl)
    obtain ⟨r_, r0, r1, r2⟩ := F.rb
    have rf0 := F.rf 0
    have rf1 := F.rf 1
    have rf2 := F.rf 2
    have KK := Lib.hid F.K
    clear F
    go_wp2
    refine bodyPost_ret (v := .tuple #[shv 0 0 none 0 0, .bool false]) (by simp [results, Try.results29, go_sem, r0, r1, r2]) rfl ?_
    exact we_no BB.out (below_put3 KK.out (by omega))
  obtain ⟨a_, a0, a1, a2⟩ := F.sa
  obtain ⟨b_, b0, b1, b2⟩ := F.sb
  by_cases ht : W = tw
  rotate_left
  · have BB : Hid (weB W H tw th xs ys x y = false) := Lib.hid (by unfold weB; rw [hs1, hs2, decide_eq_false ht]; rfl)
    have hd : (W != tw) = true := by simpa using ht
    obtain ⟨r_, r0, r1, r2⟩ := F.rb
    have rf0 := F.rf 0
    have rf1 := F.rf 1
    have rf2 := F.rf 2
    have KK := Lib.hid F.K
    clear F
    go_wp2
    refine bodyPost_ret (v := .tuple #[shv 0 0 none 0 0, .bool false]) (by simp [results, Try.results29, go_sem, r0, r1, r2]) rfl ?_
    exact we_no BB.out (below_put3 KK.out (by omega))
  subst ht
  by_cases ht : H = th
  rotate_left
  · have BB : Hid (weB W H W th xs ys x y = false) := Lib.hid (by unfold weB; rw [hs1, hs2, decide_eq_true rfl, decide_eq_false ht]; rfl)
    have hd : (H != th) = true := by simpa using ht
    obtain ⟨r_, r0, r1, r2⟩ := F.rb
    have rf0 := F.rf 0
    have rf1 := F.rf 1
    have rf2 := F.rf 2
    have KK := Lib.hid F.K
    clear F
    go_wp2
    refine bodyPost_ret (v := .tuple #[shv 0 0 none 0 0, .bool false]) (by simp [results, Try.results29, go_sem, r0, r1, r2]) rfl ?_
    exact we_no BB.out (below_put3 KK.out (by omega))
  subst ht
  go_wp2_with fail
  refine (l01Finite_any x _).mono ?_
  rintro e w3 ⟨rfl, n3, hw3⟩
  have F : Three w w3 W H W H A B xs ys c d := by rw [hw3]; exact F.drewN _
  clear a_ a0 a1 a2 b_ b0 b1 b2 hw3
  cases hs3 : finB (cn .f32 x)
  · have BB : Hid (weB W H W H xs ys x y = false) := Lib.hid (by unfold weB; rw [hs1, hs2, hs3, decide_eq_true rfl, decide_eq_true rfl]; rfl)
    obtain ⟨r_, r0, r1, r2⟩ := F.rb
    have rf0 := F.rf 0
    have rf1 := F.rf 1
    have rf2 := F.rf 2
    have KK := Lib.hid F.K
    clear F
    go_wp2
    refine bodyPost_ret (v := .tuple #[shv 0 0 none 0 0, .bool false]) (by simp [results, Try.results29, go_sem, r0, r1, r2]) rfl ?_
    exact we_no BB.out (below_put3 KK.out (by omega))
  go_wp2_with fail
  refine (l01Finite_any y _).mono ?_
  rintro e w4 ⟨rfl, n4, hw4⟩
  have F : Three w w4 W H W H A B xs ys c d := by rw [hw4]; exact F.drewN _
  clear hw4
  cases hs4 : finB (cn .f32 y)
  · have BB : Hid (weB W H W H xs ys x y = false) := Lib.hid (by unfold weB; rw [hs1, hs2, hs3, hs4, decide_eq_true rfl, decide_eq_true rfl]; rfl)
    obtain ⟨r_, r0, r1, r2⟩ := F.rb
    have rf0 := F.rf 0
    have rf1 := F.rf 1
    have rf2 := F.rf 2
    have KK := Lib.hid F.K
    clear F
    go_wp2
    refine bodyPost_ret (v := .tuple #[shv 0 0 none 0 0, .bool false]) (by simp [results, Try.results29, go_sem, r0, r1, r2]) rfl ?_
    exact we_no BB.out (below_put3 KK.out (by omega))
  have WY := Lib.hid (we_yes (w := w) hs1 hs2 hs3 hs4)
  obtain ⟨h0, h1⟩ := shB_pos hs1
  have hyl : ys.length = xs.length := by have a := shB_len hs1; have b := shB_len hs2; omega
  have hAlt : ∀ b, InA A b → b < w4.heap.size := fun b ⟨o, e⟩ => by obtain ⟨b', o', e', hlt, _⟩ := F.hA.at_ h0; rw [e] at e'; injection e' with e'; injection e' with e1 e2; omega
  have hBlt : ∀ b, InA B b → b < w4.heap.size := fun b ⟨o, e⟩ => by obtain ⟨b', o', e', hlt, _⟩ := F.hB.at_ (k := 0) (by omega); rw [e] at e'; injection e' with e'; injection e' with e1 e2; omega
  go_wp2_with fail
  refine (l05Own_any _ W H A c xs _ F.hA h0 h1 F.sa.c0 F.sa.c1 F.sa.c2).mono ?_
  rintro e w5 ⟨O, cO, rfl, oO, k5⟩
  have oO : OwnS w4.heap.size w5 O (xs.map fv) := oO
  have zz := F.z
  have F := F.step k5
  have hOlt : ∀ b, InA O b → w4.heap.size ≤ b ∧ b < w5.heap.size := oO.2.2
  have z5 := k5.size
  clear k5
  go_wp2_with fail
  obtain ⟨w6, hw6⟩ : ∃ w6, w6 = w5.alloc (.cells #[.int .i64 W, .int .i64 H, .slice O xs.length cO] 33) := ⟨_, rfl⟩
  have k6 : Below w5.heap.size w5 w6 := by rw [hw6]; exact below_alloc _ _
  have ob : BoxS w6 w5.heap.size W H O xs.length cO := by rw [hw6]; exact boxS_new _ _ _ _ _ _ _ _ rfl
  rw [← hw6]
  clear hw6
  have oO := oO.below k6
  have F := F.step k6
  have z6 := k6.size
  clear k6
  go_loopw [47] (fun iv wr => ∃ (k : Nat) (zs : List Nat), k ≤ xs.length ∧ iv = .int .i64 k ∧ zs.length = xs.length ∧ OwnS w4.heap.size wr O (zs.map fv) ∧ Keep (InA O) w6 wr ∧ Hid (cl (zs.take k) = (wgL (cn .f32 x) (cn .f32 y) (cl xs) (cl ys)).take k)) (fun iv _ => xs.length - (intOf iv).toNat)
  case atStart => exact ⟨0, xs, Nat.zero_le _, rfl, rfl, oO, Keep.refl _ _, Lib.hid rfl⟩
  case round =>
    clear oO
    obtain ⟨k, zs, hk, rfl, hzl, hO, hKp, HC⟩ := hrel
    have FR := F.keep hKp (fun b h => by have := (hOlt b h).1; omega) (fun b h h' => by have h1 := hAlt b h; have h2 := (hOlt b h').1; omega) (fun b h h' => by have h1 := hBlt b h; have h2 := (hOlt b h').1; omega)
    have obr := ob.keep hKp (fun h' => by have h2 : w5.heap.size < w5.heap.size := (hOlt _ h').2; omega)
    clear F ob
    by_cases hlt : k < xs.length
    · have hlt2 : k < ys.length := by omega
      have s2 := FR.sa.c2
      have t2 := FR.sb.c2
      have o2 := obr.c2
      obtain ⟨b, o, rfl, hb, hc⟩ := FR.hA.at_ hlt
      obtain ⟨bb, bo, rfl, hbb, hcb⟩ := FR.hB.at_ hlt2
      have hky : k < zs.length := by omega
      obtain ⟨b2, ob2, rfl, hb2, hc2⟩ := (show FRd wr O zs from hO.1).at_ (k := k) (by omega)
      obtain ⟨b3, ob3, e3, _, _, hf3⟩ := hO.2.1 k (by simp; omega)
      injection e3 with e3
      injection e3 with e31 e32
      subst e31; subst e32
      have hki : (k : Int) < xs.length := by omega
      have hki2 : (k : Int) < ys.length := by omega
      have fa := finL_at hlt (shB_finL hs1)
      have fb := finL_at hlt2 (shB_finL hs2)
      have HX : Hid (wgh (cn .f32 x) (cn .f32 y) (cn .f32 xs[k]) (cn .f32 ys[k]) = (wgL (cn .f32 x) (cn .f32 y) (cl xs) (cl ys))[k]'(by rw [wg_len (by rw [cl_len, cl_len]; exact hyl), cl_len]; exact hlt)) := Lib.hid (by
        have e : (wgL (cn .f32 x) (cn .f32 y) (cl xs) (cl ys))[k]'(by rw [wg_len (by rw [cl_len, cl_len]; exact hyl), cl_len]; exact hlt) = wgh (cn .f32 x) (cn .f32 y) ((cl xs)[k]'(by rw [cl_len]; exact hlt)) ((cl ys)[k]'(by rw [cl_len]; exact hlt2)) := List.getElem_zipWith ..
        rw [e]
        simp [cl])
      generalize xs[k] = va at hc HX fa
      generalize ys[k] = vb at hcb HX fb
      generalize zs[k] = vo at hc2
      have D1 := fin_mul hs3 fa
      have D2 := fin_mul hs4 fb
      have r1 := D1.res
      have d1 := D1.dr
      have r2 := D2.res
      have d2 := D2.dr
      have FF := Lib.hid (And.intro fa fb)
      clear D1 D2 fa fb
      have HFR := Lib.hid FR
      have HOB := Lib.hid obr
      clear FR obr
      go_wp2_with fail
      -- region
      have lb := hAlt b ⟨o, rfl⟩
      have lbb := hBlt bb ⟨bo, rfl⟩
      have lo := hOlt b2 ⟨ob2, rfl⟩
      first | refine wp_region_noPanic ?_ | skip
      refine wp_region_held_drew (S := fun w' => w'.cell? ⟨w.heap.size, 2, none⟩ = some (.slice (some ⟨b, o, none⟩) xs.length c) ∧ w'.cell? ⟨w.heap.size + 1, 2, none⟩ = some (.slice (some ⟨bb, bo, none⟩) ys.length d) ∧ w'.cell? ⟨w5.heap.size, 2, none⟩ = some (.slice (some ⟨b2, ob2, none⟩) xs.length cO) ∧ w'.cell? ⟨b, o + k, none⟩ = some (.float .f32 va) ∧ w'.cell? ⟨bb, bo + k, none⟩ = some (.float .f32 vb)) (by kernel_rfl) (⟨by exact s2, by exact t2, by exact o2, by exact hc, by exact hcb⟩) (fun hHeld => ?_)
      first
        | (refine wpAnyH_take (i := 0) (oi := ?oi0A) (v := ?v0A) ?hi0A (by kernel_rfl) (by kernel_rfl) (by kernel_rfl) (fun _ _ _ h => h) (Or.inl ⟨?hw0A, ?hy0A⟩) hHeld ?rest0A
           case hi0A => (simp only [List.getElem?_toArray, List.getElem?_cons_zero]; rfl)
           case hw0A => (first | rfl | (simp [Region.wanted, yielded]; done))
           case hy0A => (intro w hSw; (try dsimp only at hSw); go_simp; try first | with_reducible rfl | (refine ⟨?_, rfl⟩; with_reducible rfl))
           try simp only [Act.put, List.setIfInBounds_toArray, List.set_cons_zero, List.set_cons_succ])
        | (refine wpAnyH_take (i := 0) (oi := ?oj0A) (v := undef) ?hj0A (by kernel_rfl) (by kernel_rfl) (by kernel_rfl) (fun _ _ _ h => h) (Or.inr ⟨?hx0A, rfl⟩) hHeld ?more0A
           case hj0A => (simp only [List.getElem?_toArray, List.getElem?_cons_zero]; rfl)
           case hx0A => (first | rfl | (simp [Region.wanted, yielded]; done))
           try simp only [Act.put, List.setIfInBounds_toArray, List.set_cons_zero, List.set_cons_succ])
        | fail
      first
        | (refine wpAnyH_take (i := 1) (oi := ?oi1A) (v := ?v1A) ?hi1A (by kernel_rfl) (by kernel_rfl) (by kernel_rfl) (fun _ _ _ h => h) (Or.inl ⟨?hw1A, ?hy1A⟩) hHeld ?rest1A
           case hi1A => (simp only [List.getElem?_toArray, List.getElem?_cons_succ, List.getElem?_cons_zero]; rfl)
           case hw1A => (first | rfl | (simp [Region.wanted, yielded]; done))
           case hy1A => (intro w hSw; (try dsimp only at hSw); go_simp; try first | with_reducible rfl | (refine ⟨?_, rfl⟩; with_reducible rfl))
           try simp only [Act.put, List.setIfInBounds_toArray, List.set_cons_zero, List.set_cons_succ])
        | (refine wpAnyH_take (i := 1) (oi := ?oj1A) (v := undef) ?hj1A (by kernel_rfl) (by kernel_rfl) (by kernel_rfl) (fun _ _ _ h => h) (Or.inr ⟨?hx1A, rfl⟩) hHeld ?more1A
           case hj1A => (simp only [List.getElem?_toArray, List.getElem?_cons_succ, List.getElem?_cons_zero]; rfl)
           case hx1A => (first | rfl | (simp [Region.wanted, yielded]; done))
           try simp only [Act.put, List.setIfInBounds_toArray, List.set_cons_zero, List.set_cons_succ])
        | fail
      first
        | (refine wpAnyH_take (i := 2) (oi := ?oi2A) (v := ?v2A) ?hi2A (by kernel_rfl) (by kernel_rfl) (by kernel_rfl) (fun _ _ _ h => h) (Or.inl ⟨?hw2A, ?hy2A⟩) hHeld ?rest2A
           case hi2A => (simp only [List.getElem?_toArray, List.getElem?_cons_succ, List.getElem?_cons_zero]; rfl)
           case hw2A => (first | rfl | (simp [Region.wanted, yielded]; done))
           case hy2A => (intro w hSw; (try dsimp only at hSw); go_simp; try first | with_reducible rfl | (refine ⟨?_, rfl⟩; with_reducible rfl))
           try simp only [Act.put, List.setIfInBounds_toArray, List.set_cons_zero, List.set_cons_succ])
        | (refine wpAnyH_take (i := 2) (oi := ?oj2A) (v := undef) ?hj2A (by kernel_rfl) (by kernel_rfl) (by kernel_rfl) (fun _ _ _ h => h) (Or.inr ⟨?hx2A, rfl⟩) hHeld ?more2A
           case hj2A => (simp only [List.getElem?_toArray, List.getElem?_cons_succ, List.getElem?_cons_zero]; rfl)
           case hx2A => (first | rfl | (simp [Region.wanted, yielded]; done))
           try simp only [Act.put, List.setIfInBounds_toArray, List.set_cons_zero, List.set_cons_succ])
        | fail
      first
        | (refine wpAnyH_take (i := 3) (oi := ?oi3A) (v := ?v3A) ?hi3A (by kernel_rfl) (by kernel_rfl) (by kernel_rfl) (fun _ _ _ h => h) (Or.inl ⟨?hw3A, ?hy3A⟩) hHeld ?rest3A
           case hi3A => (simp only [List.getElem?_toArray, List.getElem?_cons_succ, List.getElem?_cons_zero]; rfl)
           case hw3A => (first | rfl | (simp [Region.wanted, yielded]; done))
           case hy3A => (intro w hSw; (try dsimp only at hSw); go_simp; try first | with_reducible rfl | (refine ⟨?_, rfl⟩; with_reducible rfl))
           try simp only [Act.put, List.setIfInBounds_toArray, List.set_cons_zero, List.set_cons_succ])
        | (refine wpAnyH_take (i := 3) (oi := ?oj3A) (v := undef) ?hj3A (by kernel_rfl) (by kernel_rfl) (by kernel_rfl) (fun _ _ _ h => h) (Or.inr ⟨?hx3A, rfl⟩) hHeld ?more3A
           case hj3A => (simp only [List.getElem?_toArray, List.getElem?_cons_succ, List.getElem?_cons_zero]; rfl)
           case hx3A => (first | rfl | (simp [Region.wanted, yielded]; done))
           try simp only [Act.put, List.setIfInBounds_toArray, List.set_cons_zero, List.set_cons_succ])
        | fail
      first
        | (refine wpAnyH_take (i := 4) (oi := ?oi4A) (v := ?v4A) ?hi4A (by kernel_rfl) (by kernel_rfl) (by kernel_rfl) (fun _ _ _ h => h) (Or.inl ⟨?hw4A, ?hy4A⟩) hHeld ?rest4A
           case hi4A => (simp only [List.getElem?_toArray, List.getElem?_cons_succ, List.getElem?_cons_zero]; rfl)
           case hw4A => (first | rfl | (simp [Region.wanted, yielded]; done))
           case hy4A => (intro w hSw; (try dsimp only at hSw); go_simp; try first | with_reducible rfl | (refine ⟨?_, rfl⟩; with_reducible rfl))
           try simp only [Act.put, List.setIfInBounds_toArray, List.set_cons_zero, List.set_cons_succ])
        | (refine wpAnyH_take (i := 4) (oi := ?oj4A) (v := undef) ?hj4A (by kernel_rfl) (by kernel_rfl) (by kernel_rfl) (fun _ _ _ h => h) (Or.inr ⟨?hx4A, rfl⟩) hHeld ?more4A
           case hj4A => (simp only [List.getElem?_toArray, List.getElem?_cons_succ, List.getElem?_cons_zero]; rfl)
           case hx4A => (first | rfl | (simp [Region.wanted, yielded]; done))
           try simp only [Act.put, List.setIfInBounds_toArray, List.set_cons_zero, List.set_cons_succ])
        | fail
      first
        | (refine wpAnyH_take (i := 5) (oi := ?oi5A) (v := ?v5A) ?hi5A (by kernel_rfl) (by kernel_rfl) (by kernel_rfl) (fun _ _ _ h => h) (Or.inl ⟨?hw5A, ?hy5A⟩) hHeld ?rest5A
           case hi5A => (simp only [List.getElem?_toArray, List.getElem?_cons_succ, List.getElem?_cons_zero]; rfl)
           case hw5A => (first | rfl | (simp [Region.wanted, yielded]; done))
           case hy5A => (intro w hSw; (try dsimp only at hSw); go_simp; try first | with_reducible rfl | (refine ⟨?_, rfl⟩; with_reducible rfl))
           try simp only [Act.put, List.setIfInBounds_toArray, List.set_cons_zero, List.set_cons_succ])
        | (refine wpAnyH_take (i := 5) (oi := ?oj5A) (v := undef) ?hj5A (by kernel_rfl) (by kernel_rfl) (by kernel_rfl) (fun _ _ _ h => h) (Or.inr ⟨?hx5A, rfl⟩) hHeld ?more5A
           case hj5A => (simp only [List.getElem?_toArray, List.getElem?_cons_succ, List.getElem?_cons_zero]; rfl)
           case hx5A => (first | rfl | (simp [Region.wanted, yielded]; done))
           try simp only [Act.put, List.setIfInBounds_toArray, List.set_cons_zero, List.set_cons_succ])
        | fail
      first
        | (refine wpAnyH_take (i := 6) (oi := ?oi6A) (v := ?v6A) ?hi6A (by kernel_rfl) (by kernel_rfl) (by kernel_rfl) (fun _ _ _ h => h) (Or.inl ⟨?hw6A, ?hy6A⟩) hHeld ?rest6A
           case hi6A => (simp only [List.getElem?_toArray, List.getElem?_cons_succ, List.getElem?_cons_zero]; rfl)
           case hw6A => (first | rfl | (simp [Region.wanted, yielded]; done))
           case hy6A => (intro w hSw; (try dsimp only at hSw); go_simp; try first | with_reducible rfl | (refine ⟨?_, rfl⟩; with_reducible rfl))
           try simp only [Act.put, List.setIfInBounds_toArray, List.set_cons_zero, List.set_cons_succ])
        | (refine wpAnyH_take (i := 6) (oi := ?oj6A) (v := undef) ?hj6A (by kernel_rfl) (by kernel_rfl) (by kernel_rfl) (fun _ _ _ h => h) (Or.inr ⟨?hx6A, rfl⟩) hHeld ?more6A
           case hj6A => (simp only [List.getElem?_toArray, List.getElem?_cons_succ, List.getElem?_cons_zero]; rfl)
           case hx6A => (first | rfl | (simp [Region.wanted, yielded]; done))
           try simp only [Act.put, List.setIfInBounds_toArray, List.set_cons_zero, List.set_cons_succ])
        | fail
      first
        | (refine wpAnyH_take (i := 7) (oi := ?oi7A) (v := ?v7A) ?hi7A (by kernel_rfl) (by kernel_rfl) (by kernel_rfl) (fun _ _ _ h => h) (Or.inl ⟨?hw7A, ?hy7A⟩) hHeld ?rest7A
           case hi7A => (simp only [List.getElem?_toArray, List.getElem?_cons_succ, List.getElem?_cons_zero]; rfl)
           case hw7A => (first | rfl | (simp [Region.wanted, yielded]; done))
           case hy7A => (intro w hSw; (try dsimp only at hSw); go_simp; try first | with_reducible rfl | (refine ⟨?_, rfl⟩; with_reducible rfl))
           try simp only [Act.put, List.setIfInBounds_toArray, List.set_cons_zero, List.set_cons_succ])
        | (refine wpAnyH_take (i := 7) (oi := ?oj7A) (v := undef) ?hj7A (by kernel_rfl) (by kernel_rfl) (by kernel_rfl) (fun _ _ _ h => h) (Or.inr ⟨?hx7A, rfl⟩) hHeld ?more7A
           case hj7A => (simp only [List.getElem?_toArray, List.getElem?_cons_succ, List.getElem?_cons_zero]; rfl)
           case hx7A => (first | rfl | (simp [Region.wanted, yielded]; done))
           try simp only [Act.put, List.setIfInBounds_toArray, List.set_cons_zero, List.set_cons_succ])
        | fail
      first
        | (refine wpAnyH_take (i := 8) (oi := ?oi8A) (v := ?v8A) ?hi8A (by kernel_rfl) (by kernel_rfl) (by kernel_rfl) (fun _ _ _ h => h) (Or.inl ⟨?hw8A, ?hy8A⟩) hHeld ?rest8A
           case hi8A => (simp only [List.getElem?_toArray, List.getElem?_cons_succ, List.getElem?_cons_zero]; rfl)
           case hw8A => (first | rfl | (simp [Region.wanted, yielded]; done))
           case hy8A => (intro w hSw; (try dsimp only at hSw); go_simp; try first | with_reducible rfl | (refine ⟨?_, rfl⟩; with_reducible rfl))
           try simp only [Act.put, List.setIfInBounds_toArray, List.set_cons_zero, List.set_cons_succ])
        | (refine wpAnyH_take (i := 8) (oi := ?oj8A) (v := undef) ?hj8A (by kernel_rfl) (by kernel_rfl) (by kernel_rfl) (fun _ _ _ h => h) (Or.inr ⟨?hx8A, rfl⟩) hHeld ?more8A
           case hj8A => (simp only [List.getElem?_toArray, List.getElem?_cons_succ, List.getElem?_cons_zero]; rfl)
           case hx8A => (first | rfl | (simp [Region.wanted, yielded]; done))
           try simp only [Act.put, List.setIfInBounds_toArray, List.set_cons_zero, List.set_cons_succ])
        | fail
      first
        | (refine wpAnyH_take (i := 9) (oi := ?oi9A) (v := ?v9A) ?hi9A (by kernel_rfl) (by kernel_rfl) (by kernel_rfl) (fun _ _ _ h => h) (Or.inl ⟨?hw9A, ?hy9A⟩) hHeld ?rest9A
           case hi9A => (simp only [List.getElem?_toArray, List.getElem?_cons_succ, List.getElem?_cons_zero]; rfl)
           case hw9A => (first | rfl | (simp [Region.wanted, yielded]; done))
           case hy9A => (intro w hSw; (try dsimp only at hSw); go_simp; try first | with_reducible rfl | (refine ⟨?_, rfl⟩; with_reducible rfl))
           try simp only [Act.put, List.setIfInBounds_toArray, List.set_cons_zero, List.set_cons_succ])
        | (refine wpAnyH_take (i := 9) (oi := ?oj9A) (v := undef) ?hj9A (by kernel_rfl) (by kernel_rfl) (by kernel_rfl) (fun _ _ _ h => h) (Or.inr ⟨?hx9A, rfl⟩) hHeld ?more9A
           case hj9A => (simp only [List.getElem?_toArray, List.getElem?_cons_succ, List.getElem?_cons_zero]; rfl)
           case hx9A => (first | rfl | (simp [Region.wanted, yielded]; done))
           try simp only [Act.put, List.setIfInBounds_toArray, List.set_cons_zero, List.set_cons_succ])
        | fail
      first
        | (refine wpAnyH_take (i := 10) (oi := ?oi10A) (v := ?v10A) ?hi10A (by kernel_rfl) (by kernel_rfl) (by kernel_rfl) (fun _ _ _ h => h) (Or.inl ⟨?hw10A, ?hy10A⟩) hHeld ?rest10A
           case hi10A => (simp only [List.getElem?_toArray, List.getElem?_cons_succ, List.getElem?_cons_zero]; rfl)
           case hw10A => (first | rfl | (simp [Region.wanted, yielded]; done))
           case hy10A => (intro w hSw; (try dsimp only at hSw); go_simp; try first | with_reducible rfl | (refine ⟨?_, rfl⟩; with_reducible rfl))
           try simp only [Act.put, List.setIfInBounds_toArray, List.set_cons_zero, List.set_cons_succ])
        | (refine wpAnyH_take (i := 10) (oi := ?oj10A) (v := undef) ?hj10A (by kernel_rfl) (by kernel_rfl) (by kernel_rfl) (fun _ _ _ h => h) (Or.inr ⟨?hx10A, rfl⟩) hHeld ?more10A
           case hj10A => (simp only [List.getElem?_toArray, List.getElem?_cons_succ, List.getElem?_cons_zero]; rfl)
           case hx10A => (first | rfl | (simp [Region.wanted, yielded]; done))
           try simp only [Act.put, List.setIfInBounds_toArray, List.set_cons_zero, List.set_cons_succ])
        | fail
      first
        | (refine wpAnyH_take (i := 11) (oi := ?oi11A) (v := ?v11A) ?hi11A (by kernel_rfl) (by kernel_rfl) (by kernel_rfl) (fun _ _ _ h => h) (Or.inl ⟨?hw11A, ?hy11A⟩) hHeld ?rest11A
           case hi11A => (simp only [List.getElem?_toArray, List.getElem?_cons_succ, List.getElem?_cons_zero]; rfl)
           case hw11A => (first | rfl | (simp [Region.wanted, yielded]; done))
           case hy11A => (intro w hSw; (try dsimp only at hSw); go_simp; try first | with_reducible rfl | (refine ⟨?_, rfl⟩; with_reducible rfl))
           try simp only [Act.put, List.setIfInBounds_toArray, List.set_cons_zero, List.set_cons_succ])
        | (refine wpAnyH_take (i := 11) (oi := ?oj11A) (v := undef) ?hj11A (by kernel_rfl) (by kernel_rfl) (by kernel_rfl) (fun _ _ _ h => h) (Or.inr ⟨?hx11A, rfl⟩) hHeld ?more11A
           case hj11A => (simp only [List.getElem?_toArray, List.getElem?_cons_succ, List.getElem?_cons_zero]; rfl)
           case hx11A => (first | rfl | (simp [Region.wanted, yielded]; done))
           try simp only [Act.put, List.setIfInBounds_toArray, List.set_cons_zero, List.set_cons_succ])
        | fail
      first
        | (refine wpAnyH_take (i := 12) (oi := ?oi12A) (v := ?v12A) ?hi12A (by kernel_rfl) (by kernel_rfl) (by kernel_rfl) (fun _ _ _ h => h) (Or.inl ⟨?hw12A, ?hy12A⟩) hHeld ?rest12A
           case hi12A => (simp only [List.getElem?_toArray, List.getElem?_cons_succ, List.getElem?_cons_zero]; rfl)
           case hw12A => (first | rfl | (simp [Region.wanted, yielded]; done))
           case hy12A => (intro w hSw; (try dsimp only at hSw); go_simp; try first | with_reducible rfl | (refine ⟨?_, rfl⟩; with_reducible rfl))
           try simp only [Act.put, List.setIfInBounds_toArray, List.set_cons_zero, List.set_cons_succ])
        | (refine wpAnyH_take (i := 12) (oi := ?oj12A) (v := undef) ?hj12A (by kernel_rfl) (by kernel_rfl) (by kernel_rfl) (fun _ _ _ h => h) (Or.inr ⟨?hx12A, rfl⟩) hHeld ?more12A
           case hj12A => (simp only [List.getElem?_toArray, List.getElem?_cons_succ, List.getElem?_cons_zero]; rfl)
           case hx12A => (first | rfl | (simp [Region.wanted, yielded]; done))
           try simp only [Act.put, List.setIfInBounds_toArray, List.set_cons_zero, List.set_cons_succ])
        | fail
      first
        | (refine wpAnyH_take (i := 13) (oi := ?oi13A) (v := ?v13A) ?hi13A (by kernel_rfl) (by kernel_rfl) (by kernel_rfl) (fun _ _ _ h => h) (Or.inl ⟨?hw13A, ?hy13A⟩) hHeld ?rest13A
           case hi13A => (simp only [List.getElem?_toArray, List.getElem?_cons_succ, List.getElem?_cons_zero]; rfl)
           case hw13A => (first | rfl | (simp [Region.wanted, yielded]; done))
           case hy13A => (intro w hSw; (try dsimp only at hSw); go_simp; try first | with_reducible rfl | (refine ⟨?_, rfl⟩; with_reducible rfl))
           try simp only [Act.put, List.setIfInBounds_toArray, List.set_cons_zero, List.set_cons_succ])
        | (refine wpAnyH_take (i := 13) (oi := ?oj13A) (v := undef) ?hj13A (by kernel_rfl) (by kernel_rfl) (by kernel_rfl) (fun _ _ _ h => h) (Or.inr ⟨?hx13A, rfl⟩) hHeld ?more13A
           case hj13A => (simp only [List.getElem?_toArray, List.getElem?_cons_succ, List.getElem?_cons_zero]; rfl)
           case hx13A => (first | rfl | (simp [Region.wanted, yielded]; done))
           try simp only [Act.put, List.setIfInBounds_toArray, List.set_cons_zero, List.set_cons_succ])
        | fail
      first
        | (refine wpAnyH_take (i := 14) (oi := ?oi14A) (v := ?v14A) ?hi14A (by kernel_rfl) (by kernel_rfl) (by kernel_rfl) (fun _ _ _ h => h) (Or.inl ⟨?hw14A, ?hy14A⟩) hHeld ?rest14A
           case hi14A => (simp only [List.getElem?_toArray, List.getElem?_cons_succ, List.getElem?_cons_zero]; rfl)
           case hw14A => (first | rfl | (simp [Region.wanted, yielded]; done))
           case hy14A => (intro w hSw; (try dsimp only at hSw); go_simp; try first | with_reducible rfl | (refine ⟨?_, rfl⟩; with_reducible rfl))
           try simp only [Act.put, List.setIfInBounds_toArray, List.set_cons_zero, List.set_cons_succ])
        | (refine wpAnyH_take (i := 14) (oi := ?oj14A) (v := undef) ?hj14A (by kernel_rfl) (by kernel_rfl) (by kernel_rfl) (fun _ _ _ h => h) (Or.inr ⟨?hx14A, rfl⟩) hHeld ?more14A
           case hj14A => (simp only [List.getElem?_toArray, List.getElem?_cons_succ, List.getElem?_cons_zero]; rfl)
           case hx14A => (first | rfl | (simp [Region.wanted, yielded]; done))
           try simp only [Act.put, List.setIfInBounds_toArray, List.set_cons_zero, List.set_cons_succ])
        | fail
      first
        | (refine wpAnyH_take (i := 15) (oi := ?oi15A) (v := ?v15A) ?hi15A (by kernel_rfl) (by kernel_rfl) (by kernel_rfl) (fun _ _ _ h => h) (Or.inl ⟨?hw15A, ?hy15A⟩) hHeld ?rest15A
           case hi15A => (simp only [List.getElem?_toArray, List.getElem?_cons_succ, List.getElem?_cons_zero]; rfl)
           case hw15A => (first | rfl | (simp [Region.wanted, yielded]; done))
           case hy15A => (intro w hSw; (try dsimp only at hSw); go_simp; try first | with_reducible rfl | (refine ⟨?_, rfl⟩; with_reducible rfl))
           try simp only [Act.put, List.setIfInBounds_toArray, List.set_cons_zero, List.set_cons_succ])
        | (refine wpAnyH_take (i := 15) (oi := ?oj15A) (v := undef) ?hj15A (by kernel_rfl) (by kernel_rfl) (by kernel_rfl) (fun _ _ _ h => h) (Or.inr ⟨?hx15A, rfl⟩) hHeld ?more15A
           case hj15A => (simp only [List.getElem?_toArray, List.getElem?_cons_succ, List.getElem?_cons_zero]; rfl)
           case hx15A => (first | rfl | (simp [Region.wanted, yielded]; done))
           try simp only [Act.put, List.setIfInBounds_toArray, List.set_cons_zero, List.set_cons_succ])
        | fail
      first
        | (refine wpAnyH_take (i := 16) (oi := ?oi16A) (v := ?v16A) ?hi16A (by kernel_rfl) (by kernel_rfl) (by kernel_rfl) (fun _ _ _ h => h) (Or.inl ⟨?hw16A, ?hy16A⟩) hHeld ?rest16A
           case hi16A => (simp only [List.getElem?_toArray, List.getElem?_cons_succ, List.getElem?_cons_zero]; rfl)
           case hw16A => (first | rfl | (simp [Region.wanted, yielded]; done))
           case hy16A => (intro w hSw; (try dsimp only at hSw); go_simp; try first | with_reducible rfl | (refine ⟨?_, rfl⟩; with_reducible rfl))
           try simp only [Act.put, List.setIfInBounds_toArray, List.set_cons_zero, List.set_cons_succ])
        | (refine wpAnyH_take (i := 16) (oi := ?oj16A) (v := undef) ?hj16A (by kernel_rfl) (by kernel_rfl) (by kernel_rfl) (fun _ _ _ h => h) (Or.inr ⟨?hx16A, rfl⟩) hHeld ?more16A
           case hj16A => (simp only [List.getElem?_toArray, List.getElem?_cons_succ, List.getElem?_cons_zero]; rfl)
           case hx16A => (first | rfl | (simp [Region.wanted, yielded]; done))
           try simp only [Act.put, List.setIfInBounds_toArray, List.set_cons_zero, List.set_cons_succ])
        | fail
      refine wpAnyH_ready (rs := [17]) (by kernel_rfl) (by simp) ?_
      refine AllReadyH.cons rfl (fun K hK => ?_) AllReadyH.nil
      go_simp
      refine hK.out _ _ (⟨by exact s2, by exact t2, by exact o2, by exact hc, by exact hcb⟩) (fun hHeld => ?_)
      clear hK K
      try simp only [Act.put, List.setIfInBounds_toArray, List.set_cons_zero, List.set_cons_succ]
      first
        | (refine wpAnyH_take (i := 18) (oi := ?oi18A) (v := ?v18A) ?hi18A (by kernel_rfl) (by kernel_rfl) (by kernel_rfl) (fun _ _ _ h => h) (Or.inl ⟨?hw18A, ?hy18A⟩) hHeld ?rest18A
           case hi18A => (simp only [List.getElem?_toArray, List.getElem?_cons_succ, List.getElem?_cons_zero]; rfl)
           case hw18A => (first | rfl | (simp [Region.wanted, yielded]; done))
           case hy18A => (intro w hSw; (try dsimp only at hSw); go_simp; try first | with_reducible rfl | (refine ⟨?_, rfl⟩; with_reducible rfl))
           try simp only [Act.put, List.setIfInBounds_toArray, List.set_cons_zero, List.set_cons_succ])
        | (refine wpAnyH_take (i := 18) (oi := ?oj18A) (v := undef) ?hj18A (by kernel_rfl) (by kernel_rfl) (by kernel_rfl) (fun _ _ _ h => h) (Or.inr ⟨?hx18A, rfl⟩) hHeld ?more18A
           case hj18A => (simp only [List.getElem?_toArray, List.getElem?_cons_succ, List.getElem?_cons_zero]; rfl)
           case hx18A => (first | rfl | (simp [Region.wanted, yielded]; done))
           try simp only [Act.put, List.setIfInBounds_toArray, List.set_cons_zero, List.set_cons_succ])
        | fail
      refine wpAnyH_ready (rs := [19]) (by kernel_rfl) (by simp) ?_
      refine AllReadyH.cons rfl (fun K hK => ?_) AllReadyH.nil
      go_simp
      refine hK.out _ _ (⟨(World.cell?_setCell_other _ _ _ _ (by intro h; injection h with h; omega)).trans (by exact s2), (World.cell?_setCell_other _ _ _ _ (by intro h; injection h with h; omega)).trans (by exact t2), (World.cell?_setCell_other _ _ _ _ (by intro h; injection h with h; omega)).trans (by exact o2), (World.cell?_setCell_other _ _ _ _ (by intro h; injection h with h; omega)).trans (by exact hc), (World.cell?_setCell_other _ _ _ _ (by intro h; injection h with h; omega)).trans (by exact hcb)⟩) (fun hHeld => ?_)
      clear hK K
      try simp only [Act.put, List.setIfInBounds_toArray, List.set_cons_zero, List.set_cons_succ]
      refine wpAnyH_done (by kernel_rfl) ?_ _
      first | refine NoPanic.normal ?_ | skip
      go_wp2
      refine ⟨⟨k + 1, zs.set k _, by omega, by go_num, by simp [hzl], by rw [List.map_set]; exact OwnS.set (hO.drewN _) (by rw [List.length_map]; exact hky), (hKp.drewN _).setCell (.inl ⟨ob2, rfl⟩) _, Lib.hid (set_next hky (by rw [wg_len (by rw [cl_len, cl_len]; exact hyl), cl_len]; exact hlt) HC.out (by rw [← HX.out, cn_fres, cn_fop, cn_fop]; unfold wgh; rw [fin_cn' hs3, fin_cn' hs4, fin_cn' FF.out.1, fin_cn' FF.out.2]))⟩, ?_⟩
      simp [intOf]
      omega
    · obtain rfl : k = xs.length := by omega
      have hcl : cl zs = wgL (cn .f32 x) (cn .f32 y) (cl xs) (cl ys) := by
        have := HC.out
        rw [List.take_of_length_le (by omega), List.take_of_length_le (by rw [wg_len (by rw [cl_len, cl_len]; exact hyl), cl_len]; omega)] at this
        exact this
      have o0 := obr.c0
      have o1 := obr.c1
      have o2 := obr.c2
      have I := l05Give_any W H O cO zs wr hO.1 (by unfold maxLen; omega)
      rw [hzl] at I
      have HFR := Lib.hid FR
      clear FR obr
      go_wp2_with fail
      refine I.mono ?_
      rintro e w7 ⟨rfl, k7⟩
      clear I o0 o1 o2
      have F7 := HFR.out.step k7
      obtain ⟨r_, r0, r1, r2⟩ := F7.rb
      have rf0 := F7.rf 0
      have rf1 := F7.rf 1
      have rf2 := F7.rf 2
      have O5 := Lib.hid (hO.below k7)
      have K5 := Lib.hid F7.K
      have HL := Lib.hid hcl
      clear k7 hO hKp hcl F7 HFR HC
      cases hg : shB W H zs
      · have HS : Hid (shC W H (wgL (cn .f32 x) (cn .f32 y) (cl xs) (cl ys)) = false) := Lib.hid (by rw [← HL.out, ← shC_cl]; exact hg)
        clear hg
        go_wp2
        refine bodyPost_ret (v := .tuple #[shv 0 0 none 0 0, .bool false]) (by simp [results, Try.results29, go_sem, r0, r1, r2]) rfl ?_
        rw [← WY.out]
        exact give_no HS.out (below_put3 K5.out (by omega))
      · have HS := Lib.hid hg
        clear hg
        go_wp2
        refine bodyPost_ret (v := .tuple #[shv W H O xs.length cO, .bool true]) (by simp [results, Try.results29, go_sem, r0, r1, r2]) rfl ?_
        rw [← WY.out, ← HL.out, ← hzl]
        exact give_yes HS.out ((own_put3 O5.out (by omega) _ _ _).less (by omega)) (below_put3 K5.out (by omega))
end Go.Proofs.Ytenepnbickpcjaa
