/- NormSheet, the reference. -/
import Derived.Test.YtenepnbickpcjaaNorm
namespace Go.Proofs.Ytenepnbickpcjaa
open Go.RowKit

theorem OwnS.set {B : Nat} {w : World} {b o k : Nat} {xs : List Value} {v : Value} (h : OwnS B w (some ⟨b, o, none⟩) xs) (hk : k < xs.length) : OwnS B (w.setCell ⟨b, o + k, none⟩ v) (some ⟨b, o, none⟩) (xs.set k v) := by
  refine ⟨fun i u hu => ?_, by rw [List.length_set]; exact h.2.1.set _ _, fun c hc => ⟨(h.2.2 c hc).1, by simpa [World.setCell] using (h.2.2 c hc).2⟩⟩
  by_cases e : i = k
  · subst e
    have hv : v = u := by simpa [hk] using hu
    subst hv
    obtain ⟨b', o', e', hb, hc⟩ := h.1 i xs[i] (by simp [hk])
    injection e' with e'
    injection e' with e1 e2
    subst e1; subst e2
    exact ⟨b, o, rfl, by simpa [World.setCell] using hb, World.cell?_setCell_same _ _ _ hc⟩
  · obtain ⟨b', o', e', hb, hc⟩ := h.1 i u (by rw [← hu, List.getElem?_set_ne (by omega)])
    injection e' with e'
    injection e' with e1 e2
    subst e1; subst e2
    exact ⟨b, o, rfl, by simpa [World.setCell] using hb, (World.cell?_setCell_other _ _ _ _ (by simp <;> omega)).trans hc⟩
theorem set_next {ys l : List Nat} {k v : Nat} (hk : k < ys.length) (hl : k < l.length) (h : cl (ys.take k) = l.take k) (hv : cn .f32 v = l[k]) : cl ((ys.set k v).take (k + 1)) = l.take (k + 1) := by
  have h1 : (ys.set k v).take (k + 1) = ys.take k ++ [v] := by
    rw [List.take_succ_eq_append_getElem (by rw [List.length_set]; exact hk), List.take_set_of_le (Nat.le_refl _)]
    simp
  have h2 : l.take (k + 1) = l.take k ++ [l[k]] := List.take_succ_eq_append_getElem hl
  rw [h1, h2, ← h, ← hv]
  unfold cl
  rw [List.map_append]
  rfl
set_option maxRecDepth 100000 in
set_option maxHeartbeats 4000000 in
theorem specN_yes (W H : Int) (A : Option Addr) (xs : List Nat) (c : Nat) (w : World) (hA : FRd w A xs) (hn : xs.length ≤ maxLen) (hs : shB W H xs = true) (hb : nmB (cl xs) = true) :
    Calls Try.prog 35 #[shv W H A xs.length c] w (GiveR w W H (nmL (cl xs))) := by
  obtain ⟨h0, h1⟩ := shB_pos hs
  obtain ⟨w0, hw0⟩ : ∃ w0, w0 = (w.alloc (.cells #[.int .i64 W, .int .i64 H, .slice A xs.length c] 33)).alloc (.cells #[.int .i64 0, .int .i64 0, .slice none 0 0] 33) := ⟨_, rfl⟩
  have z0 : w0.heap.size = w.heap.size + 2 := by rw [hw0]; simp
  have k0 : Below w.heap.size w w0 := by rw [hw0]; exact Below.step (below_alloc _ _) (below_alloc _ _)
  have sb : BoxS w0 w.heap.size W H A xs.length c := by rw [hw0]; exact (boxS_new _ _ _ _ _ _ _ _ rfl).below (below_alloc _ _)
  have rb : BoxS w0 (w.heap.size + 1) 0 0 none 0 0 := by rw [hw0]; exact boxS_new _ _ _ _ _ _ _ _ (by simp)
  have rf : ∀ i, w0.frozen? ⟨w.heap.size + 1, i, none⟩ = false := by rw [hw0]; intro i; simp
  have hA1 := Rd.below hA k0
  go_enter Try.func35, Try.ntmps35
  go_wp2_with fail
  rw [← hw0]
  clear hw0
  refine (l05Is_any _ W H A c xs _ hA1 hn sb.c0 sb.c1 sb.c2).mono ?_
  rintro e w1 ⟨rfl, n1, hw1⟩
  rw [hs]
  have sb : BoxS w1 w.heap.size W H A xs.length c := by rw [hw1]; exact sb.drewN _
  have rb : BoxS w1 (w.heap.size + 1) 0 0 none 0 0 := by rw [hw1]; exact rb.drewN _
  have rf : ∀ i, w1.frozen? ⟨w.heap.size + 1, i, none⟩ = false := by rw [hw1]; exact rf
  have hA2 : FRd w1 A xs := by rw [hw1]; exact hA1
  have K1 : Below w.heap.size w w1 := by rw [hw1]; exact below_drewN k0 _
  clear hw1 hA1 k0
  go_wp2_with fail
  refine (l05Range_any _ A c xs _ hA2 (by omega) h0 sb.c2).mono ?_
  rintro e w2 ⟨lo, hh, n2, rfl, e1, e2, hw2⟩
  have sb : BoxS w2 w.heap.size W H A xs.length c := by rw [hw2]; exact sb.drewN _
  have rb : BoxS w2 (w.heap.size + 1) 0 0 none 0 0 := by rw [hw2]; exact rb.drewN _
  have rf : ∀ i, w2.frozen? ⟨w.heap.size + 1, i, none⟩ = false := by rw [hw2]; exact rf
  have hA3 : FRd w2 A xs := by rw [hw2]; exact hA2
  have K2 : Below w.heap.size w w2 := by rw [hw2]; exact below_drewN K1 _
  have hcz := cl_zero h0
  have HE := Lib.hid (show cn .f32 lo = nmLo (cl xs) ∧ cn .f32 hh = nmHi (cl xs) from ⟨by rw [e1]; unfold nmLo; rw [hcz], by rw [e2]; unfold nmHi; rw [hcz]⟩)
  have hgt : (ford .f32 (fop .sub .f32 (cn .f32 hh) (cn .f32 lo)) (cn .f32 0) == some .gt) = true := by rw [HE.out.1, HE.out.2]; exact hb
  have FE : finB (cn .f32 lo) = true ∧ finB (cn .f32 hh) = true := by rw [HE.out.1, HE.out.2]; exact nm_fin hs h0
  have FH := Lib.hid FE
  clear FE
  have hA2lt : ∀ b, InA A b → b < w2.heap.size := fun b ⟨o, e⟩ => by obtain ⟨b', o', e', hlt, _⟩ := hA3.at_ h0; rw [e] at e'; injection e' with e'; injection e' with e1 e2; omega
  clear hw2 hA2 K1 e1 e2 hcz hb
  obtain ⟨s_, s0, s1, s2⟩ := sb
  go_wp2_with fail
  refine (l05Own_any _ W H A c xs _ (by exact hA3) h0 h1 (by exact s0) (by exact s1) (by exact s2)).mono ?_
  rintro e w3 ⟨B, cB, rfl, oB, k3'⟩
  have k3 : Below w2.heap.size w2 w3 := (below_drewN (Below.refl _ _) _).trans k3'
  have oB : OwnS w2.heap.size w3 B (xs.map fv) := oB
  clear k3'
  have hA4 := Rd.below hA3 k3
  obtain ⟨s_, s0, s1, s2⟩ := (BoxS.mk s_ s0 s1 s2).below k3
  have rb0 := rb.lt
  have rb := rb.below k3
  have rf : ∀ i, w3.frozen? ⟨w.heap.size + 1, i, none⟩ = false := fun i => (k3.frozen (by exact rb0)).trans (rf i)
  have K3 := Below.step K2 k3
  have z2 := K2.size
  clear hA3
  have z23 := k3.size
  have hBlt : ∀ b, InA B b → w2.heap.size ≤ b ∧ b < w3.heap.size := oB.2.2
  go_wp2_with fail
  obtain ⟨w4, hw4⟩ : ∃ w4, w4 = w3.alloc (.cells #[.int .i64 W, .int .i64 H, .slice B xs.length cB] 33) := ⟨_, rfl⟩
  have k4 : Below w3.heap.size w3 w4 := by rw [hw4]; exact below_alloc _ _
  have ob : BoxS w4 w3.heap.size W H B xs.length cB := by rw [hw4]; exact boxS_new _ _ _ _ _ _ _ _ rfl
  rw [← hw4]
  clear hw4
  have oB := oB.below k4
  have hA5 := Rd.below hA4 k4
  obtain ⟨s_, s0, s1, s2⟩ := (BoxS.mk s_ s0 s1 s2).below k4
  have rf : ∀ i, w4.frozen? ⟨w.heap.size + 1, i, none⟩ = false := fun i => (k4.frozen (by exact rb.lt)).trans (rf i)
  have rb := rb.below k4
  have K4 := Below.step K3 k4
  have z34 := k4.size
  have hAlt : ∀ b, InA A b → b < w2.heap.size := hA2lt
  clear k4 K3 K2 hA4 k3
  go_loopw [27] (fun iv wr => ∃ (k : Nat) (ys : List Nat), k ≤ xs.length ∧ iv = .int .i64 k ∧ ys.length = xs.length ∧ OwnS w2.heap.size wr B (ys.map fv) ∧ Keep (InA B) w4 wr ∧ Hid (cl (ys.take k) = (nmL (cl xs)).take k)) (fun iv _ => xs.length - (intOf iv).toNat)
  case atStart => exact ⟨0, xs, Nat.zero_le _, rfl, rfl, oB, Keep.refl _ _, Lib.hid rfl⟩
  case round =>
    clear oB
    obtain ⟨k, ys, hk, rfl, hyl, hO, hKp, HC⟩ := hrel
    have hAr : FRd wr A xs := Rd.keepA hA5 hKp (fun b h h' => by have := hAlt b h; have := (hBlt b h').1; omega)
    have s2 := (hKp.cell (p := ⟨w.heap.size, 2, none⟩) (by exact s_) (fun h' => by have h2 : w2.heap.size ≤ w.heap.size := (hBlt _ h').1; omega)).trans s2
    have o2 := (hKp.cell (p := ⟨w3.heap.size, 2, none⟩) (by exact ob.lt) (fun h' => by have h2 : w3.heap.size < w3.heap.size := (hBlt _ h').2; omega)).trans ob.c2
    by_cases hlt : k < xs.length
    · obtain ⟨b, o, rfl, hb, hc⟩ := hAr.at_ hlt
      have hky : k < ys.length := by omega
      obtain ⟨b2, ob2, rfl, hb2, hc2⟩ := (show FRd wr B ys from hO.1).at_ (k := k) (by omega)
      obtain ⟨b3, ob3, e3, _, _, hf3⟩ := hO.2.1 k (by simp; omega)
      injection e3 with e3
      injection e3 with e31 e32
      subst e31; subst e32
      have hki : (k : Int) < xs.length := by omega
      have HX : Hid (nrm (cn .f32 lo) (cn .f32 hh) (cn .f32 xs[k]) = (nmL (cl xs))[k]'(by unfold nmL; rw [List.length_map, cl_len]; exact hlt)) := Lib.hid (by unfold nmL cl; rw [HE.out.1, HE.out.2]; simp [cl])
      generalize xs[k] = y at hc HX
      generalize ys[k] = yo at hc2
      go_wp2_with fail
      go_region_with fail
      all_goals
        go_wp2
        refine ⟨⟨k + 1, ys.set k _, by omega, by go_num, by simp [hyl], by rw [List.map_set]; exact OwnS.set (hO.drewN _) (by rw [List.length_map]; exact hky), (hKp.drewN _).setCell (.inl ⟨ob2, rfl⟩) _, Lib.hid (set_next hky (by unfold nmL; rw [List.length_map, cl_len]; exact hlt) HC.out (by rw [← HX.out]; simp only [cn_fres]; rfl))⟩, ?_⟩
        simp [intOf]
        omega
    · obtain rfl : k = xs.length := by omega
      have hcl : cl ys = nmL (cl xs) := by
        have := HC.out
        rw [List.take_of_length_le (by omega), List.take_of_length_le (by unfold nmL; rw [List.length_map, cl_len]; omega)] at this
        exact this
      have o0 := (hKp.cell (p := ⟨w3.heap.size, 0, none⟩) (by exact ob.lt) (fun h' => by have h2 : w3.heap.size < w3.heap.size := (hBlt _ h').2; omega)).trans ob.c0
      have o1 := (hKp.cell (p := ⟨w3.heap.size, 1, none⟩) (by exact ob.lt) (fun h' => by have h2 : w3.heap.size < w3.heap.size := (hBlt _ h').2; omega)).trans ob.c1
      have rbr := rb.keep hKp (fun h' => by have h2 : w2.heap.size ≤ w.heap.size + 1 := (hBlt _ h').1; omega)
      have rfr : ∀ i, wr.frozen? ⟨w.heap.size + 1, i, none⟩ = false := fun i => (World.frozen?_of_block (w := w4) (hKp.block _ rb.lt (fun h' => by have h2 : w2.heap.size ≤ w.heap.size + 1 := (hBlt _ h').1; omega))).trans (rf i)
      have KR : Below w.heap.size w wr := hKp.below K4 (by omega) (fun b hb => by have := (hBlt b hb).1; omega)
      have I := l05Give_any W H B cB ys wr hO.1 (by unfold maxLen; omega)
      rw [hyl] at I
      go_wp2_with fail
      refine I.mono ?_
      rintro e w5 ⟨rfl, k5⟩
      clear I
      obtain ⟨r_, r0, r1, r2⟩ := rbr.below k5
      have rf0 : w5.frozen? ⟨w.heap.size + 1, 0, none⟩ = false := (k5.frozen (by exact rbr.lt)).trans (rfr 0)
      have rf1 : w5.frozen? ⟨w.heap.size + 1, 1, none⟩ = false := (k5.frozen (by exact rbr.lt)).trans (rfr 1)
      have rf2 : w5.frozen? ⟨w.heap.size + 1, 2, none⟩ = false := (k5.frozen (by exact rbr.lt)).trans (rfr 2)
      have O5 := Lib.hid (hO.below k5)
      have K5 := Lib.hid (Below.step KR k5)
      have HL := Lib.hid hcl
      clear k5 KR hO hKp hAr rbr rfr hcl
      cases hg : shB W H ys
      · have HS : Hid (shC W H (nmL (cl xs)) = false) := Lib.hid (by rw [← HL.out, ← shC_cl]; exact hg)
        clear hg
        go_wp2
        refine bodyPost_ret (v := .tuple #[shv 0 0 none 0 0, .bool false]) (by simp [results, Try.results35, go_sem, r0, r1, r2]) rfl ?_
        exact give_no HS.out (below_put3 K5.out (by omega))
      · have HS := Lib.hid hg
        clear hg
        go_wp2
        refine bodyPost_ret (v := .tuple #[shv W H B xs.length cB, .bool true]) (by simp [results, Try.results35, go_sem, r0, r1, r2]) rfl ?_
        rw [← HL.out, ← hyl]
        exact give_yes HS.out ((own_put3 O5.out (by omega) _ _ _).less (by omega)) (below_put3 K5.out (by omega))
set_option maxRecDepth 100000 in
set_option maxHeartbeats 1000000 in
theorem specN_flat (W H : Int) (A : Option Addr) (xs : List Nat) (c : Nat) (w : World) (hA : FRd w A xs) (hn : xs.length ≤ maxLen) (hs : shB W H xs = true) (hb : nmB (cl xs) = false) :
    Calls Try.prog 35 #[shv W H A xs.length c] w (NoR w W H xs) := by
  obtain ⟨h0, h1⟩ := shB_pos hs
  obtain ⟨w0, hw0⟩ : ∃ w0, w0 = (w.alloc (.cells #[.int .i64 W, .int .i64 H, .slice A xs.length c] 33)).alloc (.cells #[.int .i64 0, .int .i64 0, .slice none 0 0] 33) := ⟨_, rfl⟩
  have z0 : w0.heap.size = w.heap.size + 2 := by rw [hw0]; simp
  have k0 : Below w.heap.size w w0 := by rw [hw0]; exact Below.step (below_alloc _ _) (below_alloc _ _)
  have sb : BoxS w0 w.heap.size W H A xs.length c := by rw [hw0]; exact (boxS_new _ _ _ _ _ _ _ _ rfl).below (below_alloc _ _)
  have rb : BoxS w0 (w.heap.size + 1) 0 0 none 0 0 := by rw [hw0]; exact boxS_new _ _ _ _ _ _ _ _ (by simp)
  have rf : ∀ i, w0.frozen? ⟨w.heap.size + 1, i, none⟩ = false := by rw [hw0]; intro i; simp
  have hA1 := Rd.below hA k0
  go_enter Try.func35, Try.ntmps35
  go_wp2_with fail
  rw [← hw0]
  clear hw0
  refine (l05Is_any _ W H A c xs _ hA1 hn sb.c0 sb.c1 sb.c2).mono ?_
  rintro e w1 ⟨rfl, n1, hw1⟩
  rw [hs]
  have sb : BoxS w1 w.heap.size W H A xs.length c := by rw [hw1]; exact sb.drewN _
  have rb : BoxS w1 (w.heap.size + 1) 0 0 none 0 0 := by rw [hw1]; exact rb.drewN _
  have rf : ∀ i, w1.frozen? ⟨w.heap.size + 1, i, none⟩ = false := by rw [hw1]; exact rf
  have hA2 : FRd w1 A xs := by rw [hw1]; exact hA1
  have K1 : Below w.heap.size w w1 := by rw [hw1]; exact below_drewN k0 _
  clear hw1 hA1 k0
  go_wp2_with fail
  refine (l05Range_any _ A c xs _ hA2 (by omega) h0 sb.c2).mono ?_
  rintro e w2 ⟨lo, hh, n2, rfl, e1, e2, hw2⟩
  have sb : BoxS w2 w.heap.size W H A xs.length c := by rw [hw2]; exact sb.drewN _
  have rb : BoxS w2 (w.heap.size + 1) 0 0 none 0 0 := by rw [hw2]; exact rb.drewN _
  have rf : ∀ i, w2.frozen? ⟨w.heap.size + 1, i, none⟩ = false := by rw [hw2]; exact rf
  have hA3 : FRd w2 A xs := by rw [hw2]; exact hA2
  have K2 : Below w.heap.size w w2 := by rw [hw2]; exact below_drewN K1 _
  have hcz := cl_zero h0
  have HE := Lib.hid (show cn .f32 lo = nmLo (cl xs) ∧ cn .f32 hh = nmHi (cl xs) from ⟨by rw [e1]; unfold nmLo; rw [hcz], by rw [e2]; unfold nmHi; rw [hcz]⟩)
  have hgt : (ford .f32 (fop .sub .f32 (cn .f32 hh) (cn .f32 lo)) (cn .f32 0) == some .gt) = false := by rw [HE.out.1, HE.out.2]; exact hb
  have B := Lib.hid (noB_nm (sw := W) (sh := H) hb)
  obtain ⟨r_, r0, r1, r2⟩ := rb
  have rf0 := rf 0
  have rf1 := rf 1
  have rf2 := rf 2
  clear hw2 hA2 K1 e1 e2 hcz hb HE rf
  go_wp2
  refine bodyPost_ret (v := .tuple #[shv 0 0 none 0 0, .bool false]) (by simp [results, Try.results35, go_sem, r0, r1, r2]) rfl ?_
  exact no_no B.out (below_put3 (below_drewN K2 _) (by omega))
set_option maxRecDepth 100000 in
set_option maxHeartbeats 1000000 in
theorem specN_none (W H : Int) (A : Option Addr) (xs : List Nat) (c : Nat) (w : World) (hA : FRd w A xs) (hn : xs.length ≤ maxLen) (hs : shB W H xs = false) :
    Calls Try.prog 35 #[shv W H A xs.length c] w (NoR w W H xs) := by
  obtain ⟨w0, hw0⟩ : ∃ w0, w0 = (w.alloc (.cells #[.int .i64 W, .int .i64 H, .slice A xs.length c] 33)).alloc (.cells #[.int .i64 0, .int .i64 0, .slice none 0 0] 33) := ⟨_, rfl⟩
  have z0 : w0.heap.size = w.heap.size + 2 := by rw [hw0]; simp
  have k0 : Below w.heap.size w w0 := by rw [hw0]; exact Below.step (below_alloc _ _) (below_alloc _ _)
  have sb : BoxS w0 w.heap.size W H A xs.length c := by rw [hw0]; exact (boxS_new _ _ _ _ _ _ _ _ rfl).below (below_alloc _ _)
  have rb : BoxS w0 (w.heap.size + 1) 0 0 none 0 0 := by rw [hw0]; exact boxS_new _ _ _ _ _ _ _ _ (by simp)
  have rf : ∀ i, w0.frozen? ⟨w.heap.size + 1, i, none⟩ = false := by rw [hw0]; intro i; simp
  have hA1 := Rd.below hA k0
  go_enter Try.func35, Try.ntmps35
  go_wp2_with fail
  rw [← hw0]
  clear hw0
  refine (l05Is_any _ W H A c xs _ hA1 hn sb.c0 sb.c1 sb.c2).mono ?_
  rintro e w1 ⟨rfl, n1, hw1⟩
  rw [hs]
  have sb : BoxS w1 w.heap.size W H A xs.length c := by rw [hw1]; exact sb.drewN _
  have rb : BoxS w1 (w.heap.size + 1) 0 0 none 0 0 := by rw [hw1]; exact rb.drewN _
  have rf : ∀ i, w1.frozen? ⟨w.heap.size + 1, i, none⟩ = false := by rw [hw1]; exact rf
  have hA2 : FRd w1 A xs := by rw [hw1]; exact hA1
  have K1 : Below w.heap.size w w1 := by rw [hw1]; exact below_drewN k0 _
  have B := Lib.hid (noB_sh hs)
  obtain ⟨r_, r0, r1, r2⟩ := rb
  have rf0 := rf 0
  have rf1 := rf 1
  have rf2 := rf 2
  clear hw1 hA1 k0 rf
  go_wp2
  refine bodyPost_ret (v := .tuple #[shv 0 0 none 0 0, .bool false]) (by simp [results, Try.results35, go_sem, r0, r1, r2]) rfl ?_
  exact no_no B.out (below_put3 K1 (by omega))
theorem specN_any (W H : Int) (A : Option Addr) (xs : List Nat) (c : Nat) (w : World) (hA : FRd w A xs) (hn : xs.length ≤ maxLen) :
    Calls Try.prog 35 #[shv W H A xs.length c] w (NoR w W H xs) := by
  cases hs : shB W H xs
  · exact specN_none W H A xs c w hA hn hs
  · cases hb : nmB (cl xs)
    · exact specN_flat W H A xs c w hA hn hs hb
    · rw [← no_yes hs hb]
      exact specN_yes W H A xs c w hA hn hs hb
end Go.Proofs.Ytenepnbickpcjaa
