/- The law's walk of SameGrammar. -/
import Derived.Test.YtfblpibioegmkaaG8
import Derived.Deep.RegionWith
import Derived.BigRegion
import Derived.Deep.RegionHeld3
namespace Go.Proofs.Ytfblpibioegmkaa
open Go.RowKit

/-- A grammar in a box. -/
structure Box (w : World) (p : Nat) (s : ByteArray) (A : Option Addr) (n c : Nat) : Prop where
  lt : p < w.heap.size
  c0 : w.cell? ⟨p, 0, none⟩ = some (.string s)
  c1 : w.cell? ⟨p, 1, none⟩ = some (.slice A n c)
theorem Box.below {w w' : World} {p : Nat} {s : ByteArray} {A : Option Addr} {n c : Nat} (h : Box w p s A n c) (k : Below w.heap.size w w') : Box w' p s A n c :=
  ⟨Nat.lt_of_lt_of_le h.lt k.size, (k.cell h.lt).trans h.c0, (k.cell h.lt).trans h.c1⟩
theorem box_new (w : World) (s : ByteArray) (A : Option Addr) (n c : Nat) (t : TypeId) (p : Nat) (hp : p = w.heap.size) : Box (w.alloc (.cells #[.string s, .slice A n c] t)) p s A n c := by
  subst hp
  exact ⟨by simp, by simp, by simp⟩
theorem six_below {w w' : World} {p q : Nat} {s u : ByteArray} {A B : Option Addr} {n c m d : Nat} (k : Below w.heap.size w w') (hp : p < w.heap.size) (hq : q < w.heap.size)
    (h : w.cell? ⟨p, 0, none⟩ = some (.string s) ∧ w.cell? ⟨p, 1, none⟩ = some (.slice A n c) ∧ w.cell? ⟨q, 0, none⟩ = some (.string u) ∧ w.cell? ⟨q, 1, none⟩ = some (.slice B m d)) :
    w'.cell? ⟨p, 0, none⟩ = some (.string s) ∧ w'.cell? ⟨p, 1, none⟩ = some (.slice A n c) ∧ w'.cell? ⟨q, 0, none⟩ = some (.string u) ∧ w'.cell? ⟨q, 1, none⟩ = some (.slice B m d) := by
  obtain ⟨h0, h1, h3, h4⟩ := h
  exact ⟨(k.cell hp).trans h0, (k.cell hp).trans h1, (k.cell hq).trans h3, (k.cell hq).trans h4⟩

set_option maxRecDepth 100000 in
set_option maxHeartbeats 4000000 in
theorem sameGLaw (s u : ByteArray) (A B : Option Addr) (ca cb : Nat) (rs ts : List RuleV) (w : World) (hA : RRd w A rs) (hB : RRd w B ts) (hn : rs.length ≤ maxLen) (hm : ts.length ≤ maxLen) (hs : s.size ≤ maxLen) (hu : u.size ≤ maxLen) (hz : ∀ r ∈ rs, r.1.size ≤ maxLen ∧ r.2.size ≤ maxLen) (hz2 : ∀ r ∈ ts, r.1.size ≤ maxLen ∧ r.2.size ≤ maxLen) :
    Calls Try.prog 7 #[.agg #[.string s, .slice A rs.length ca], .agg #[.string u, .slice B ts.length cb]] w fun e w' => e = .returned (.bool true) ∧ Below w.heap.size w w' := by
  have K0 : Below w.heap.size w ((w.alloc (.cells #[.string s, .slice A rs.length ca] 32)).alloc (.cells #[.string u, .slice B ts.length cb] 32)) := Below.step (below_alloc _ _) (below_alloc _ _)
  have xa0 := (box_new w s A rs.length ca 32 _ rfl).below (below_alloc _ (.cells #[.string u, .slice B ts.length cb] 32))
  have xb0 := box_new (w.alloc (.cells #[.string s, .slice A rs.length ca] 32)) u B ts.length cb 32 (w.heap.size + 1) (by simp)
  go_enter Try.func7, Try.ntmps7
  go_wp2_with fail
  refine (szGrammar_any s A ca rs _ _ (hA.below K0) hn (by omega) (by omega) hs hz).mono ?_
  rintro e w1 ⟨l, rfl, hl0, k1⟩
  by_cases hneg : l < 0
  · have K1 := Below.step K0 k1
    go_wp2
    go_ret
    exact ⟨rfl, K1⟩
  · have hl : rs.length ≤ 1048576 := by have := hl0 (by omega); unfold gwt at this; omega
    have hl1 : l ≤ 1048576 := by have := hl0 (by omega); omega
    clear hl0
    skip
    have ba1 := xa0.below k1
    have bb1 := xb0.below k1
    have hA1 := (RRd.below hA K0).below k1
    have hB1 := (RRd.below hB K0).below k1
    have K1 := Below.step K0 k1
    clear k1 xa0 xb0 K0 hA hB
    obtain ⟨a_, a0, a1⟩ := ba1
    obtain ⟨b_, b0, b1⟩ := bb1
    go_wp2_with fail
    refine (szGrammar_any u B cb ts _ _ hB1 hm (by omega) (by omega) hu hz2).mono ?_
    rintro e w2 ⟨l2, rfl, hl20, k2⟩
    by_cases hneg2 : l2 < 0
    · have K2 := Below.step K1 k2
      go_wp2
      go_ret
      exact ⟨rfl, K2⟩
    have hl2 : ts.length ≤ 1048576 := by have := hl20 (by omega); unfold gwt at this; omega
    clear hl20
    obtain ⟨a_, a0, a1⟩ := (Box.mk a_ a0 a1).below k2
    obtain ⟨b_, b0, b1⟩ := (Box.mk b_ b0 b1).below k2
    have hA2 := RRd.below hA1 k2
    have hB2 := RRd.below hB1 k2
    have K2 := Below.step K1 k2
    clear k2 K1 hA1 hB1
    go_wp2_with fail
    have tok1 : True := trivial
    have s2 := And.intro a0 (And.intro a1 (And.intro b0 b1))
    go_region_held3 (fun w' => w'.cell? ⟨w.heap.size, 0, none⟩ = some (.string s) ∧ w'.cell? ⟨w.heap.size, 1, none⟩ = some (.slice A rs.length ca) ∧ w'.cell? ⟨w.heap.size + 1, 0, none⟩ = some (.string u) ∧ w'.cell? ⟨w.heap.size + 1, 1, none⟩ = some (.slice B ts.length cb))
      (first | (exact s2) | (exact s3) | (exact s4) | (exact s5) | go_keep)
      (first
      | (go_at_call 28; have _t := tok1; clear tok1; refine (toGrammar_any s A ca rs _ (by exact hA2) (by omega)).mono ?_; rintro e w3 ⟨A3, c3, rfl, _, _, oa3, _, k3⟩; have s3 := six_below k3 (by exact a_) (by exact b_) s2; have a3_ := Nat.lt_of_lt_of_le a_ k3.size; have b3_ := Nat.lt_of_lt_of_le b_ k3.size; have hA3 := RRd.below (w := w2.drew) (by exact hA2) k3; have hB3 := RRd.below (w := w2.drew) (by exact hB2) k3; have K3 := Below.step K2.drew k3; clear k3)
      | (go_at_call 28; refine (toGrammar_any u B cb ts _ hB3 (by omega)).mono ?_; rintro e w4 ⟨B4, c4, rfl, _, _, ob4, _, k4⟩; have s4 := six_below k4 a3_ b3_ s3; have a4_ := Nat.lt_of_lt_of_le a3_ k4.size; have b4_ := Nat.lt_of_lt_of_le b3_ k4.size; have oa4 := oa3.below k4; have hA4 := RRd.below hA3 k4; have hB4 := RRd.below hB3 k4; have K4 := Below.step K3 k4; clear k4)
      | (go_at_call 27; refine (specSG_any _ _ _ _ _ _ _ _ _ oa4 ob4 hn hm).mono ?_; rintro e w5 ⟨rfl, k5⟩; have s5 := six_below k5 a4_ b4_ s4; have a5_ := Nat.lt_of_lt_of_le a4_ k5.size; have b5_ := Nat.lt_of_lt_of_le b4_ k5.size; have hA5 := RRd.below hA4 k5; have hB5 := RRd.below hB4 k5; have K5 := Below.step K4 k5; clear k5))
    clear s2 s3 s4 a0 a1 b0 b1 a_ b_ a3_ b3_ oa3 oa4 ob4 hA2 hA3 hA4 hB2 hB3 hB4 K2 K3 K4
    obtain ⟨a0, a1, b0, b1⟩ := s5
    have a_ := a5_
    have b_ := b5_
    go_wp2_with fail
    refine (toGrammar_any _ _ _ _ _ hA5 (by omega)).mono ?_
    rintro e w6 ⟨A6, c6, rfl, _, _, oa6, _, k6⟩
    obtain ⟨a_, a0, a1⟩ := (Box.mk a_ a0 a1).below k6
    obtain ⟨b_, b0, b1⟩ := (Box.mk b_ b0 b1).below k6
    have hA6 := RRd.below hA5 k6
    have hB6 := RRd.below hB5 k6
    have K6 := Below.step K5 k6
    clear k6 K5 hA5 hB5
    go_wp2_with fail
    obtain ⟨v6, hv6⟩ : ∃ v6, v6 = w6.alloc (.cells #[.string s, .slice (some ⟨A6, 0, none⟩) rs.length c6] 25) := ⟨_, rfl⟩
    have kx : Below w6.heap.size w6 v6 := by rw [hv6]; exact below_alloc _ _
    have bx : Box v6 w6.heap.size s (some ⟨A6, 0, none⟩) rs.length c6 := by rw [hv6]; exact box_new _ _ _ _ _ _ _ rfl
    obtain ⟨x_, x0, x1⟩ := bx
    rw [← hv6]
    obtain ⟨a_, a0, a1⟩ := (Box.mk a_ a0 a1).below kx
    obtain ⟨b_, b0, b1⟩ := (Box.mk b_ b0 b1).below kx
    have oa6 := oa6.below kx
    have hA6 := RRd.below hA6 kx
    have hB6 := RRd.below hB6 kx
    have K6 := Below.step K6 kx
    clear kx hv6
    refine (toGrammar_any _ _ _ _ _ hB6 (by omega)).mono ?_
    rintro e w7 ⟨B7, c7, rfl, _, _, ob7, _, k7⟩
    obtain ⟨a_, a0, a1⟩ := (Box.mk a_ a0 a1).below k7
    obtain ⟨b_, b0, b1⟩ := (Box.mk b_ b0 b1).below k7
    obtain ⟨x_, x0, x1⟩ := (Box.mk x_ x0 x1).below k7
    have oa7 := oa6.below k7
    have hA7 := RRd.below hA6 k7
    have hB7 := RRd.below hB6 k7
    have K7 := Below.step K6 k7
    clear k7 K6 hA6 hB6 oa6
    have kx := below_alloc w7 (.cells #[.string u, .slice (some ⟨B7, 0, none⟩) ts.length c7] 25)
    obtain ⟨y_, y0, y1⟩ := box_new w7 u (some ⟨B7, 0, none⟩) ts.length c7 25 w7.heap.size rfl
    obtain ⟨a_, a0, a1⟩ := (Box.mk a_ a0 a1).below kx
    obtain ⟨b_, b0, b1⟩ := (Box.mk b_ b0 b1).below kx
    obtain ⟨x_, x0, x1⟩ := (Box.mk x_ x0 x1).below kx
    have oa7 := oa7.below kx
    have ob7 := ob7.below kx
    have hA7 := RRd.below hA7 kx
    have hB7 := RRd.below hB7 kx
    have K7 := Below.step K7 kx
    clear kx
    go_wp2_with fail
    refine (implSG_any _ _ _ _ _ _ _ _ _ oa7 ob7 hn hm).mono ?_
    rintro e w8 ⟨rfl, k8⟩
    obtain ⟨a_, a0, a1⟩ := (Box.mk a_ a0 a1).below k8
    obtain ⟨b_, b0, b1⟩ := (Box.mk b_ b0 b1).below k8
    obtain ⟨x_, x0, x1⟩ := (Box.mk x_ x0 x1).below k8
    obtain ⟨y_, y0, y1⟩ := (Box.mk y_ y0 y1).below k8
    have hx8 := RRd.below oa7 k8
    have hy8 := RRd.below ob7 k8
    have hA8 := RRd.below hA7 k8
    have hB8 := RRd.below hB7 k8
    have K8 := Below.step K7 k8
    clear k8 K7 hA7 hB7 oa7 ob7
    go_wp2_with fail
    go_region_held3 (fun w' => w'.cell? ⟨w.heap.size, 0, none⟩ = some (.string s) ∧ w'.cell? ⟨w.heap.size, 1, none⟩ = some (.slice A rs.length ca) ∧ w'.cell? ⟨w6.heap.size, 0, none⟩ = some (.string s) ∧ w'.cell? ⟨w6.heap.size, 1, none⟩ = some (.slice (some ⟨A6, 0, none⟩) rs.length c6))
      (first | (exact ⟨a0, a1, x0, x1⟩) | (exact s9) | (exact s10))
      (first
      | (go_at_call 28; refine (toGrammar_any s A ca rs _ (by exact hA8) (by omega)).mono ?_; rintro e w9 ⟨A9, c9, rfl, _, _, oa9, _, k9⟩; have s9 := six_below k9 (by exact a_) (by exact x_) (And.intro a0 (And.intro a1 (And.intro x0 x1))); have a9_ := Nat.lt_of_lt_of_le a_ k9.size; have x9_ := Nat.lt_of_lt_of_le x_ k9.size; have b9 := (Box.mk b_ b0 b1).below (w := w8) (w' := w9) (by exact (Below.refl _ _).drew.trans k9); have y9 := (Box.mk y_ y0 y1).below (w := w8) (w' := w9) (by exact (Below.refl _ _).drew.trans k9); have hx9 := RRd.below (w := w8.drew) (by exact hx8) k9; have hy9 := RRd.below (w := w8.drew) (by exact hy8) k9; have hB9 := RRd.below (w := w8.drew) (by exact hB8) k9; have K9 := Below.step K8.drew k9; clear k9)
      | (go_at_call 19; refine (eqGrammar_ok _ _ _ _ _ _ _ hx9 oa9 hn).mono ?_; rintro e w10 ⟨rfl, k10⟩; have s10 := six_below k10 a9_ x9_ s9; have b10 := b9.below k10; have y10 := y9.below k10; have hy10 := RRd.below hy9 k10; have hB10 := RRd.below hB9 k10; have K10 := Below.step K9 k10; clear k10))
    clear a0 a1 x0 x1 s9 s10 b0 b1 y0 y1 b9 y9 hy8 hy9 hB8 hB9 K8 K9 oa9 hx8 hx9 hA8 a_ b_ x_ y_
    obtain ⟨b_, b0, b1⟩ := b10
    obtain ⟨y_, y0, y1⟩ := y10
    go_wp2_with fail
    go_region_held3 (fun w' => w'.cell? ⟨w.heap.size + 1, 0, none⟩ = some (.string u) ∧ w'.cell? ⟨w.heap.size + 1, 1, none⟩ = some (.slice B ts.length cb) ∧ w'.cell? ⟨w7.heap.size, 0, none⟩ = some (.string u) ∧ w'.cell? ⟨w7.heap.size, 1, none⟩ = some (.slice (some ⟨B7, 0, none⟩) ts.length c7))
      (first | (exact ⟨b0, b1, y0, y1⟩) | (exact s11) | (exact s12))
      (first
      | (go_at_call 28; refine (toGrammar_any u B cb ts _ (by exact hB10) (by omega)).mono ?_; rintro e w11 ⟨B11, c11, rfl, _, _, ob11, _, k11⟩; have s11 := six_below k11 (by exact b_) (by exact y_) (And.intro b0 (And.intro b1 (And.intro y0 y1))); have b11_ := Nat.lt_of_lt_of_le b_ k11.size; have y11_ := Nat.lt_of_lt_of_le y_ k11.size; have hy11 := RRd.below (w := w10.drew) (by exact hy10) k11; have K11 := Below.step K10.drew k11; clear k11)
      | (go_at_call 19; refine (eqGrammar_ok _ _ _ _ _ _ _ hy11 ob11 hm).mono ?_; rintro e w12 ⟨rfl, k12⟩; have s12 := six_below k12 b11_ y11_ s11; have K12 := Below.step K11 k12; clear k12))
    go_wp2
    go_ret
    exact ⟨rfl, K12⟩
end Go.Proofs.Ytfblpibioegmkaa
