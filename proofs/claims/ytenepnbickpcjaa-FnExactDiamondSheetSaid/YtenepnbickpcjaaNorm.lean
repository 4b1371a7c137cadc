/- NormSheet, the program's side. -/
import Derived.Test.YtenepnbickpcjaaChg
import Derived.Test.YtenepnbickpcjaaBoxS
import Derived.Test.YtenepnbickpcjaaSm
import Derived.StillTailTactics
namespace Go.Proofs.Ytenepnbickpcjaa
open Go.RowKit

/-- A height between 0 and 1. -/
def nrm (lo hi : Nat) (x : Nat) : Nat := fop .quo .f32 (fop .sub .f32 x lo) (fop .sub .f32 hi lo)
set_option maxRecDepth 100000 in
set_option maxHeartbeats 1000000 in
theorem norm1_any (A : Option Addr) (c : Nat) (xs : List Nat) (i : Nat) (lo hi : Nat) (p pl ph : Nat) (w : World) (hA : FRd w A xs) (hi2 : i < xs.length) (_hn : xs.length ≤ 289) (fx : finB (cn .f32 xs[i]) = true) (fl : finB (cn .f32 lo) = true) (fh : finB (cn .f32 hi) = true)
    (c2 : w.cell? ⟨p, 2, none⟩ = some (.slice A xs.length c)) (cl' : w.cell? ⟨pl, 0, none⟩ = some (.float .f32 lo)) (ch : w.cell? ⟨ph, 0, none⟩ = some (.float .f32 hi)) :
    Calls Try.prog 73 #[.int .i64 i, .pointer (some ⟨p, 0, none⟩), .pointer (some ⟨pl, 0, none⟩), .pointer (some ⟨ph, 0, none⟩)] w fun e w' => ∃ x m, e = .returned (.float .f32 x) ∧ cn .f32 x = nrm (cn .f32 lo) (cn .f32 hi) (cn .f32 xs[i]) ∧ w' = w.drewN m := by
  obtain ⟨b, o, rfl, hb, hc⟩ := hA.at_ hi2
  have hi3 : (i : Int) < xs.length := by omega
  generalize xs[i] = y at hc fx
  have D1 := fin_sub fx fl
  have D2 := fin_sub fh fl
  have r1 := D1.res
  have d1 := D1.dr
  have r2 := D2.res
  have d2 := D2.dr
  clear D1 D2
  go_enter Try.func73, Try.ntmps73
  go_wp2_with fail
  refine wp_region_still_tail 10 (by kernel_rfl) (by kernel_rfl) ?_
  simp only [List.take_succ_cons, List.take_zero, List.drop_succ_cons, List.drop_zero]
  change wpStill _ _ w.drew (fun a' => wpList _ _ _ _ a' w.drew) _ _
  obtain ⟨wd, hwd⟩ : ∃ wd, wd = w.drewN 1 := ⟨_, rfl⟩
  have c2 : wd.cell? ⟨p, 2, none⟩ = some (.slice (some ⟨b, o, none⟩) xs.length c) := by rw [hwd]; exact c2
  have hc : wd.cell? ⟨b, o + i, none⟩ = some (.float .f32 y) := by rw [hwd]; exact hc
  have cl' : wd.cell? ⟨pl, 0, none⟩ = some (.float .f32 lo) := by rw [hwd]; exact cl'
  have ch : wd.cell? ⟨ph, 0, none⟩ = some (.float .f32 hi) := by rw [hwd]; exact ch
  rw [show w.drew = wd from hwd.symm]
  have HW := Lib.hid hwd
  clear hwd
  have hd0 : wd.drewN 0 = wd := rfl
  repeat still_step
  refine wpStill_nil ?_
  go_wp2
  go_ret
  refine ⟨_, _, rfl, ?_, by rw [HW.out]; exact World.drewN_drewN _ _ _⟩
  rw [cn_fres, fop_cn]
  unfold nrm
  rw [fin_cn' fx, fin_cn' fl, fin_cn' fh]
theorem enter_norm1 : ∀ args w, (callFunc 73 args).run Try.prog w = .ok (.enter 73 args) w := fun args w => by
  simp only [callFunc]
  have h1 : ¬ (Try.f73.name = "runtime.NumGoroutine") := by decide +kernel
  have h2 : Try.f73.body.isSome = true := by kernel_rfl
  have h3 : ¬ (Try.f73.body = none) := fun h => by rw [h] at h2; cases h2
  simp [h1, h3]
def nmLo (l : List Nat) : Nat := lowF (l[0]?.getD 0) l
def nmHi (l : List Nat) : Nat := highF (l[0]?.getD 0) l
/-- The heights are not all the same. -/
def nmB (l : List Nat) : Bool := ford .f32 (fop .sub .f32 (nmHi l) (nmLo l)) (cn .f32 0) == some .gt
def nmL (l : List Nat) : List Nat := l.map (nrm (nmLo l) (nmHi l))
theorem map_range {l : List Nat} {n : Nat} (h : l.length = n) (f : Nat → Nat) : (List.range n).map (fun i => f (l.getD i 0)) = l.map f := by
  subst h
  apply List.ext_getElem
  · simp
  · intro i h1 h2
    have h3 : i < l.length := by simpa using h2
    simp [h3]
theorem nm_range (xs : List Nat) : (List.range xs.length).map (fun i => nrm (nmLo (cl xs)) (nmHi (cl xs)) ((cl xs).getD i 0)) = nmL (cl xs) := map_range (cl_len xs) _
theorem shB_finL {sw sh : Int} {xs : List Nat} (h : shB sw sh xs = true) : finL xs = true := by
  unfold shB at h
  rw [Bool.and_eq_true] at h
  exact h.2
theorem nm_fin {sw sh : Int} {xs : List Nat} (h : shB sw sh xs = true) (h0 : 0 < xs.length) : finB (nmLo (cl xs)) = true ∧ finB (nmHi (cl xs)) = true := by
  have hf := shB_finL h
  have ha : (cl xs).all finB = true := by
    have : finL xs = (cl xs).all finB := by
      unfold finL cl
      rw [List.all_map]
      rfl
    rw [← this]; exact hf
  have hc : finB ((cl xs)[0]?.getD 0) = true := by rw [cl_zero h0]; exact finL_at h0 hf
  exact ⟨low_fin hc ha, high_fin hc ha⟩
set_option maxRecDepth 100000 in
set_option maxHeartbeats 1000000 in
theorem implN_yes (W H : Int) (A : Option Addr) (xs : List Nat) (c : Nat) (w : World) (hA : FRd w A xs) (hn : xs.length ≤ maxLen) (hs : shB W H xs = true) (hb : nmB (cl xs) = true) :
    Calls Try.prog 36 #[shv W H A xs.length c] w (GiveR w W H (nmL (cl xs))) := by
  obtain ⟨h0, h1⟩ := shB_pos hs
  obtain ⟨w0, hw0⟩ : ∃ w0, w0 = (w.alloc (.cells #[.int .i64 W, .int .i64 H, .slice A xs.length c] 33)).alloc (.cells #[.int .i64 0, .int .i64 0, .slice none 0 0] 33) := ⟨_, rfl⟩
  have z0 : w0.heap.size = w.heap.size + 2 := by rw [hw0]; simp
  have k0 : Below w.heap.size w w0 := by rw [hw0]; exact Below.step (below_alloc _ _) (below_alloc _ _)
  have sb : BoxS w0 w.heap.size W H A xs.length c := by rw [hw0]; exact (boxS_new _ _ _ _ _ _ _ _ rfl).below (below_alloc _ _)
  have rb : BoxS w0 (w.heap.size + 1) 0 0 none 0 0 := by rw [hw0]; exact boxS_new _ _ _ _ _ _ _ _ (by simp)
  have rf : ∀ i, w0.frozen? ⟨w.heap.size + 1, i, none⟩ = false := by rw [hw0]; intro i; simp
  have hA1 := Rd.below hA k0
  go_enter Try.func36, Try.ntmps36
  go_wp2_with fail
  rw [← hw0]
  clear hw0
  refine (implValid_any W H A c xs _ hA1 hn).mono ?_
  rintro e w1 ⟨rfl, k1⟩
  rw [hs]
  have sb := sb.below k1
  have rb := rb.below k1
  have rf : ∀ i, w1.frozen? ⟨w.heap.size + 1, i, none⟩ = false := fun i => (k1.frozen (by show w.heap.size + 1 < _; omega)).trans (rf i)
  have hA2 := Rd.below hA1 k1
  have K1 := Below.step k0 k1
  obtain ⟨s_, s0, s1, s2⟩ := sb
  clear k1 hA1 k0
  go_wp2_with fail
  refine (span_any A c xs _ hA2 (by omega) h0).mono ?_
  rintro e w2 ⟨lo, hh, n2, rfl, e1, e2, hw2⟩
  have s0 : w2.cell? ⟨w.heap.size, 0, none⟩ = some (.int .i64 W) := by rw [hw2]; exact s0
  have s1 : w2.cell? ⟨w.heap.size, 1, none⟩ = some (.int .i64 H) := by rw [hw2]; exact s1
  have s2 : w2.cell? ⟨w.heap.size, 2, none⟩ = some (.slice A xs.length c) := by rw [hw2]; exact s2
  have rb : BoxS w2 (w.heap.size + 1) 0 0 none 0 0 := by rw [hw2]; exact rb.drewN _
  have rf : ∀ i, w2.frozen? ⟨w.heap.size + 1, i, none⟩ = false := by rw [hw2]; exact rf
  have hA3 : FRd w2 A xs := by rw [hw2]; exact hA2
  have K2 : Below w.heap.size w w2 := by rw [hw2]; exact below_drewN K1 _
  have hcz := cl_zero h0
  have HE := Lib.hid (show cn .f32 lo = nmLo (cl xs) ∧ cn .f32 hh = nmHi (cl xs) from ⟨by rw [e1]; unfold nmLo; rw [hcz], by rw [e2]; unfold nmHi; rw [hcz]⟩)
  have hgt : (ford .f32 (fop .sub .f32 (cn .f32 hh) (cn .f32 lo)) (cn .f32 0) == some .gt) = true := by rw [HE.out.1, HE.out.2]; exact hb
  have z2 := rb.lt
  have z2' : w.heap.size < w2.heap.size := by omega
  clear hw2 hA2 K1 e1 e2 hcz hb
  go_wp2_with fail
  obtain ⟨w4, hw4⟩ : ∃ w4, w4 = (((w2.alloc (.cells #[.float .f32 lo] 22)).alloc (.cells #[.float .f32 hh] 22)).drewN (fdr .sub .f32 hh lo)) := ⟨_, rfl⟩
  have k4 : Below w2.heap.size w2 w4 := by rw [hw4]; exact below_drewN (Below.step (below_alloc _ _) (below_alloc _ _)) _
  have zz : w2.heap.size + 1 < w4.heap.size := by rw [hw4]; show w2.heap.size + 1 < ((w2.alloc (.cells #[.float .f32 lo] 22)).alloc (.cells #[.float .f32 hh] 22)).heap.size; simp
  have l0 : w4.cell? ⟨w2.heap.size, 0, none⟩ = some (.float .f32 lo) := by rw [hw4]; exact ((below_alloc _ _).cell (by simp)).trans (by simp)
  have l1 : w4.cell? ⟨w2.heap.size + 1, 0, none⟩ = some (.float .f32 hh) := by
    have e : (w2.alloc (.cells #[.float .f32 lo] 22)).heap.size = w2.heap.size + 1 := by simp
    rw [hw4, ← e]
    show World.cell? ((w2.alloc (.cells #[.float .f32 lo] 22)).alloc (.cells #[.float .f32 hh] 22)) _ = _
    simp
  rw [← hw4]
  clear hw4
  have FE : Hid (finB (cn .f32 lo) = true ∧ finB (cn .f32 hh) = true) := Lib.hid (by rw [HE.out.1, HE.out.2]; exact nm_fin hs h0)
  have s2' := (k4.cell (p := ⟨w.heap.size, 2, none⟩) z2').trans s2
  have hA4 := Rd.below hA3 k4
  have rb := rb.below k4
  have rf : ∀ i, w4.frozen? ⟨w.heap.size + 1, i, none⟩ = false := fun i => (k4.frozen (by exact z2)).trans (rf i)
  have K4 := Below.step K2 k4
  have z4 := k4.size
  have hI := changed_any W H A xs.length c 73 #[.pointer (some ⟨w.heap.size, 0, none⟩), .pointer (some ⟨w2.heap.size, 0, none⟩), .pointer (some ⟨w2.heap.size + 1, 0, none⟩)] (fun i => nrm (nmLo (cl xs)) (nmHi (cl xs)) ((cl xs).getD i 0)) w4 h1
    (fun i wr hi hb => by
      have := norm1_any A c xs i lo hh w.heap.size w2.heap.size (w2.heap.size + 1) wr (Rd.below hA4 hb) hi h1 (finL_at hi (shB_finL hs)) FE.out.1 FE.out.2 ((hb.cell (p := ⟨w.heap.size, 2, none⟩) (by show w.heap.size < _; omega)).trans s2') ((hb.cell (p := ⟨w2.heap.size, 0, none⟩) (by show w2.heap.size < _; omega)).trans l0) ((hb.cell (p := ⟨w2.heap.size + 1, 0, none⟩) (by exact zz)).trans l1)
      rw [HE.out.1, HE.out.2] at this
      have e : (cl xs).getD i 0 = cn .f32 xs[i] := by simp [cl, hi]
      simp only [e]
      exact this) enter_norm1
  rw [nm_range] at hI
  unfold GiveR at hI
  generalize g1 : (if shC W H (nmL (cl xs)) then W else 0) = fw at hI
  generalize g2 : (if shC W H (nmL (cl xs)) then H else 0) = fh at hI
  generalize g3 : (if shC W H (nmL (cl xs)) then nmL (cl xs) else []) = fl at hI
  generalize g4 : shC W H (nmL (cl xs)) = ok at hI
  have HG := Lib.hid (And.intro g1 (And.intro g2 (And.intro g3 g4)))
  clear g1 g2 g3 g4
  clear k4 l0 l1 s2' hA4 hA3 s0 s1 s2 K2
  refine hI.mono ?_
  rintro e w5 ⟨A5, c5, xs5, rfl, e5, o5, k5⟩
  clear hI
  obtain ⟨r_, r0, r1, r2⟩ := rb.below k5
  have rf0 : w5.frozen? ⟨w.heap.size + 1, 0, none⟩ = false := (k5.frozen (by show w.heap.size + 1 < _; omega)).trans (rf 0)
  have rf1 : w5.frozen? ⟨w.heap.size + 1, 1, none⟩ = false := (k5.frozen (by show w.heap.size + 1 < _; omega)).trans (rf 1)
  have rf2 : w5.frozen? ⟨w.heap.size + 1, 2, none⟩ = false := (k5.frozen (by show w.heap.size + 1 < _; omega)).trans (rf 2)
  have K5 := Lib.hid (Below.step K4 k5)
  have O5 := Lib.hid o5
  have E5 := Lib.hid e5
  clear k5 K4 o5 e5 rf
  go_wp2
  refine bodyPost_ret (v := .tuple #[shv fw fh A5 xs5.length c5, .bool ok]) (by simp [results, Try.results36, go_sem, r0, r1, r2]) rfl ?_
  unfold GiveR
  rw [HG.out.1, HG.out.2.1, HG.out.2.2.1, HG.out.2.2.2]
  exact ⟨A5, c5, xs5, rfl, E5.out, (own_put3 O5.out (by omega) _ _ _).less (by omega), below_put3 K5.out (by omega)⟩
/-- What NormSheet gives. -/
def noB (sw sh : Int) (xs : List Nat) : Bool := shB sw sh xs && (nmB (cl xs) && shC sw sh (nmL (cl xs)))
def NoR (w : World) (sw sh : Int) (xs : List Nat) : Ending → World → Prop := SheetR w (if noB sw sh xs then sw else 0) (if noB sw sh xs then sh else 0) (if noB sw sh xs then nmL (cl xs) else []) (noB sw sh xs)
theorem no_no {sw sh : Int} {xs : List Nat} (h : noB sw sh xs = false) {w w' : World} (k : Below w.heap.size w w') : NoR w sw sh xs (.returned (.tuple #[shv 0 0 none 0 0, .bool false])) w' := by
  unfold NoR
  rw [h]
  exact sheetR_none k
theorem noB_sh {sw sh : Int} {xs : List Nat} (h : shB sw sh xs = false) : noB sw sh xs = false := by unfold noB; rw [h]; rfl
theorem noB_nm {sw sh : Int} {xs : List Nat} (h : nmB (cl xs) = false) : noB sw sh xs = false := by unfold noB; rw [h, Bool.false_and, Bool.and_false]
theorem no_yes {sw sh : Int} {xs : List Nat} (h : shB sw sh xs = true) (h2 : nmB (cl xs) = true) {w : World} : GiveR w sw sh (nmL (cl xs)) = NoR w sw sh xs := by
  unfold GiveR NoR noB
  rw [h, h2, Bool.true_and, Bool.true_and]
set_option maxRecDepth 100000 in
set_option maxHeartbeats 1000000 in
theorem implN_flat (W H : Int) (A : Option Addr) (xs : List Nat) (c : Nat) (w : World) (hA : FRd w A xs) (hn : xs.length ≤ maxLen) (hs : shB W H xs = true) (hb : nmB (cl xs) = false) :
    Calls Try.prog 36 #[shv W H A xs.length c] w (NoR w W H xs) := by
  obtain ⟨h0, h1⟩ := shB_pos hs
  obtain ⟨w0, hw0⟩ : ∃ w0, w0 = (w.alloc (.cells #[.int .i64 W, .int .i64 H, .slice A xs.length c] 33)).alloc (.cells #[.int .i64 0, .int .i64 0, .slice none 0 0] 33) := ⟨_, rfl⟩
  have z0 : w0.heap.size = w.heap.size + 2 := by rw [hw0]; simp
  have k0 : Below w.heap.size w w0 := by rw [hw0]; exact Below.step (below_alloc _ _) (below_alloc _ _)
  have sb : BoxS w0 w.heap.size W H A xs.length c := by rw [hw0]; exact (boxS_new _ _ _ _ _ _ _ _ rfl).below (below_alloc _ _)
  have rb : BoxS w0 (w.heap.size + 1) 0 0 none 0 0 := by rw [hw0]; exact boxS_new _ _ _ _ _ _ _ _ (by simp)
  have rf : ∀ i, w0.frozen? ⟨w.heap.size + 1, i, none⟩ = false := by rw [hw0]; intro i; simp
  have hA1 := Rd.below hA k0
  go_enter Try.func36, Try.ntmps36
  go_wp2_with fail
  rw [← hw0]
  clear hw0
  refine (implValid_any W H A c xs _ hA1 hn).mono ?_
  rintro e w1 ⟨rfl, k1⟩
  rw [hs]
  have sb := sb.below k1
  have rb := rb.below k1
  have rf : ∀ i, w1.frozen? ⟨w.heap.size + 1, i, none⟩ = false := fun i => (k1.frozen (by show w.heap.size + 1 < _; omega)).trans (rf i)
  have hA2 := Rd.below hA1 k1
  have K1 := Below.step k0 k1
  obtain ⟨s_, s0, s1, s2⟩ := sb
  clear k1 hA1 k0
  go_wp2_with fail
  refine (span_any A c xs _ hA2 (by omega) h0).mono ?_
  rintro e w2 ⟨lo, hh, n2, rfl, e1, e2, hw2⟩
  have s0 : w2.cell? ⟨w.heap.size, 0, none⟩ = some (.int .i64 W) := by rw [hw2]; exact s0
  have s1 : w2.cell? ⟨w.heap.size, 1, none⟩ = some (.int .i64 H) := by rw [hw2]; exact s1
  have s2 : w2.cell? ⟨w.heap.size, 2, none⟩ = some (.slice A xs.length c) := by rw [hw2]; exact s2
  have rb : BoxS w2 (w.heap.size + 1) 0 0 none 0 0 := by rw [hw2]; exact rb.drewN _
  have rf : ∀ i, w2.frozen? ⟨w.heap.size + 1, i, none⟩ = false := by rw [hw2]; exact rf
  have hA3 : FRd w2 A xs := by rw [hw2]; exact hA2
  have K2 : Below w.heap.size w w2 := by rw [hw2]; exact below_drewN K1 _
  have hcz := cl_zero h0
  have HE := Lib.hid (show cn .f32 lo = nmLo (cl xs) ∧ cn .f32 hh = nmHi (cl xs) from ⟨by rw [e1]; unfold nmLo; rw [hcz], by rw [e2]; unfold nmHi; rw [hcz]⟩)
  have hgt : (ford .f32 (fop .sub .f32 (cn .f32 hh) (cn .f32 lo)) (cn .f32 0) == some .gt) = false := by rw [HE.out.1, HE.out.2]; exact hb
  have z2 := rb.lt
  obtain ⟨r_, r0, r1, r2⟩ := rb
  have rf0 := rf 0
  have rf1 := rf 1
  have rf2 := rf 2
  have B := Lib.hid (noB_nm (sw := W) (sh := H) hb)
  have z2' : w.heap.size < w2.heap.size := by omega
  clear hw2 hA2 K1 e1 e2 hcz rf HE
  go_wp2
  refine bodyPost_ret (v := .tuple #[shv 0 0 none 0 0, .bool false]) (by simp [results, Try.results36, go_sem, r0, r1, r2, z2, z2']) rfl ?_
  exact no_no B.out (below_put3 (below_drewN (Below.step (Below.step K2 (below_alloc _ _)) (below_alloc _ _)) _) (by omega))
set_option maxRecDepth 100000 in
set_option maxHeartbeats 1000000 in
theorem implN_any (W H : Int) (A : Option Addr) (xs : List Nat) (c : Nat) (w : World) (hA : FRd w A xs) (hn : xs.length ≤ maxLen) :
    Calls Try.prog 36 #[shv W H A xs.length c] w (NoR w W H xs) := by
  have hA1 := Rd.below (Rd.below hA (below_alloc _ (.cells #[.int .i64 W, .int .i64 H, .slice A xs.length c] 33))) (below_alloc _ (.cells #[.int .i64 0, .int .i64 0, .slice none 0 0] 33))
  cases hs : shB W H xs
  · have B := Lib.hid (noB_sh hs)
    have k0 : Below w.heap.size w ((w.alloc (.cells #[.int .i64 W, .int .i64 H, .slice A xs.length c] 33)).alloc (.cells #[.int .i64 0, .int .i64 0, .slice none 0 0] 33)) := Below.step (below_alloc _ _) (below_alloc _ _)
    obtain ⟨w0, hw0⟩ : ∃ w0, w0 = (w.alloc (.cells #[.int .i64 W, .int .i64 H, .slice A xs.length c] 33)).alloc (.cells #[.int .i64 0, .int .i64 0, .slice none 0 0] 33) := ⟨_, rfl⟩
    have rb : BoxS w0 (w.heap.size + 1) 0 0 none 0 0 := by rw [hw0]; exact boxS_new _ _ _ _ _ _ _ _ (by simp)
    have rf : ∀ i, w0.frozen? ⟨w.heap.size + 1, i, none⟩ = false := by rw [hw0]; intro i; simp
    rw [← hw0] at hA1 k0
    go_enter Try.func36, Try.ntmps36
    go_wp2_with fail
    rw [← hw0]
    clear hw0
    refine (implValid_any W H A c xs _ hA1 hn).mono ?_
    rintro e w1 ⟨rfl, k1⟩
    rw [hs]
    have K1 := Below.step k0 k1
    obtain ⟨r_, r0, r1, r2⟩ := rb.below k1
    have rf0 : w1.frozen? ⟨w.heap.size + 1, 0, none⟩ = false := (k1.frozen (by exact rb.lt)).trans (rf 0)
    have rf1 : w1.frozen? ⟨w.heap.size + 1, 1, none⟩ = false := (k1.frozen (by exact rb.lt)).trans (rf 1)
    have rf2 : w1.frozen? ⟨w.heap.size + 1, 2, none⟩ = false := (k1.frozen (by exact rb.lt)).trans (rf 2)
    clear k1 rb rf k0
    go_wp2
    refine bodyPost_ret (v := .tuple #[shv 0 0 none 0 0, .bool false]) (by simp [results, Try.results36, go_sem, r0, r1, r2]) rfl ?_
    exact no_no B.out (below_put3 K1 (by omega))
  · cases hb : nmB (cl xs)
    · exact implN_flat W H A xs c w hA hn hs hb
    · rw [← no_yes hs hb]
      exact implN_yes W H A xs c w hA hn hs hb
end Go.Proofs.Ytenepnbickpcjaa
