/- The walk of FnExactLettersAfter. -/
import Derived.Test.YtfblpibioegmkaaI1
import Derived.Deep.RegionHeld3
import Derived.BigRegion
namespace Go.Proofs.Ytfblpibioegmkaa
open Go.RowKit

def ListR (w : World) (N : Nat) (F : Nat → Int) (ok : Bool) (e : Ending) (w' : World) : Prop := ∃ A c, e = .returned (.tuple #[.slice A N c, .bool ok]) ∧ VecN w' w.heap.size A N F ∧ Below w.heap.size w w'
theorem la_list {w : World} {f : Nat → Int} {ok : Bool} {e : Ending} {w' : World} (h : AftR w f ok e w') : ListR w (if ok then 27 else 0) f ok e w' := by
  rcases h with ⟨rfl, g, rfl, hg, hV, k⟩ | ⟨rfl, rfl, k⟩
  · exact ⟨_, _, rfl, VecN.of hV hg, k⟩
  · exact ⟨_, _, rfl, VecN.nil _ _ _ _, k⟩
theorem four_below {w w' : World} {p q : Nat} {s u : ByteArray} {A B : Option Addr} {n c m d : Nat} (k : Below w.heap.size w w') (hp : p < w.heap.size) (hq : q < w.heap.size)
    (h : w.cell? ⟨p, 0, none⟩ = some (.string s) ∧ w.cell? ⟨p, 1, none⟩ = some (.slice A n c) ∧ w.cell? ⟨q, 0, none⟩ = some (.string u) ∧ w.cell? ⟨q, 1, none⟩ = some (.slice B m d)) :
    w'.cell? ⟨p, 0, none⟩ = some (.string s) ∧ w'.cell? ⟨p, 1, none⟩ = some (.slice A n c) ∧ w'.cell? ⟨q, 0, none⟩ = some (.string u) ∧ w'.cell? ⟨q, 1, none⟩ = some (.slice B m d) := by
  obtain ⟨h0, h1, h3, h4⟩ := h
  exact ⟨(k.cell hp).trans h0, (k.cell hp).trans h1, (k.cell hq).trans h3, (k.cell hq).trans h4⟩
set_option maxRecDepth 100000 in
set_option maxHeartbeats 4000000 in
theorem laLaw (s : ByteArray) (A : Option Addr) (c : Nat) (rs : List RuleV) (n : Int) (w : World) (hA : RRd w A rs) (hn : rs.length ≤ maxLen) (hs : s.size ≤ maxLen) (hz : ∀ r ∈ rs, r.1.size ≤ maxLen ∧ r.2.size ≤ maxLen) :
    Calls Try.prog 12 #[.agg #[.string s, .slice A rs.length c], .int .i64 n] w fun e w' => e = .returned (.bool true) ∧ Below w.heap.size w w' := by
  have S : ∀ (A : Option Addr) (c : Nat) (w : World) (hA : RRd w A rs), Calls Try.prog 38 #[.agg #[.string s, .slice A rs.length c], .int .i64 n] w (ListR w (if laB s rs n then 27 else 0) (itF rs s n.toNat) (laB s rs n)) := fun A c w hA => (specLA_any s A c rs n w hA hn hs hz).mono (fun _ _ h => la_list h)
  have I : ∀ (A : Option Addr) (c : Nat) (w : World) (hA : RRd w A rs), Calls Try.prog 39 #[.agg #[.string s, .slice A rs.length c], .int .i64 n] w (ListR w (if laB s rs n then 27 else 0) (itF rs s n.toNat) (laB s rs n)) := fun A c w hA => (implLA_any s A c rs n w hA hn hs hz).mono (fun _ _ h => la_list h)
  have hN : (if laB s rs n then 27 else 0) ≤ 27 := by split <;> omega
  generalize (if laB s rs n then 27 else 0) = N at S I hN
  generalize laB s rs n = ok at S I
  generalize itF rs s n.toNat = F at S I
  go_enter Try.func12, Try.ntmps12
  go_wp2_with fail
  refine (szGrammar_any s A c rs _ _ (hA.below (below_alloc _ _)) hn (by omega) (by omega) hs hz).mono ?_
  rintro e w1 ⟨l, rfl, hl, k1⟩
  have z1 : w.heap.size < w1.heap.size := by have := k1.size; simp at this; omega
  have a0 : w1.cell? ⟨w.heap.size, 0, none⟩ = some (.string s) := (k1.cell (by simp)).trans (by simp)
  have a1 : w1.cell? ⟨w.heap.size, 1, none⟩ = some (.slice A rs.length c) := (k1.cell (by simp)).trans (by simp)
  have hA1 := (hA.below (below_alloc _ _)).below k1
  have K1 := Below.step (below_alloc _ _) k1
  clear k1
  by_cases hneg : l < 0
  · go_wp2
    go_ret
    exact ⟨rfl, K1⟩
  · have hle : rs.length ≤ 1048576 := by have := hl (by omega); unfold gwt at this; omega
    clear hl
    go_wp2_with fail
    refine (toGrammar_any _ _ _ _ _ hA1 hle).mono ?_
    rintro e w2 ⟨g2, c2, rfl, _, _, o2, _, k2⟩
    have z2 : w.heap.size < w2.heap.size := Nat.lt_of_lt_of_le z1 k2.size
    have a0 := (k2.cell z1).trans a0
    have a1 := (k2.cell z1).trans a1
    have hA2 := hA1.below k2
    have K2 := Below.step K1 k2
    clear k2 K1 hA1
    go_wp2_with fail
    refine (S _ _ _ o2).mono ?_
    rintro e w3 ⟨AW, cW, rfl, vW, k3⟩
    have z3 : w.heap.size < w3.heap.size := Nat.lt_of_lt_of_le z2 k3.size
    have a0 := (k3.cell z2).trans a0
    have a1 := (k3.cell z2).trans a1
    have hA3 := hA2.below k3
    have K3 := Below.step K2 k3
    have hBW : w.heap.size ≤ w2.heap.size := K2.size
    clear k3 K2 hA2 o2
    go_wp2_with fail
    refine (toGrammar_any _ _ _ _ _ hA3 hle).mono ?_
    rintro e w4 ⟨g4, c4, rfl, hg4, hg4', o4, wr4, k4⟩
    have z4 : w.heap.size < w4.heap.size := Nat.lt_of_lt_of_le z3 k4.size
    have a0 := (k4.cell z3).trans a0
    have a1 := (k4.cell z3).trans a1
    have hA4 := hA3.below k4
    have K4 := Below.step K3 k4
    have vW4 := vW.below k4
    have hW : ∀ b, AW = some ⟨b, 0, none⟩ → 0 < N → b < w3.heap.size := fun b hb h0 => by obtain ⟨b', h1, _, h2, _⟩ := vW 0 h0; rw [hb] at h1; injection h1 with h1; injection h1 with h1; omega
    have hg4w : w.heap.size ≤ g4 := by omega
    clear k4 K3 hA3 vW
    go_wp2_with fail
    obtain ⟨wb, hwb⟩ : ∃ wb, wb = w4.alloc (.cells #[.string s, .slice (some ⟨g4, 0, none⟩) rs.length c4] 25) := ⟨_, rfl⟩
    have zb : wb.heap.size = w4.heap.size + 1 := by rw [hwb]; simp
    have kb : Below w4.heap.size w4 wb := by rw [hwb]; exact below_alloc _ _
    have x0 : wb.cell? ⟨w4.heap.size, 0, none⟩ = some (.string s) := by rw [hwb]; simp
    have x1 : wb.cell? ⟨w4.heap.size, 1, none⟩ = some (.slice (some ⟨g4, 0, none⟩) rs.length c4) := by rw [hwb]; simp
    rw [← hwb]
    clear hwb
    refine (I _ _ _ (o4.below kb)).mono ?_
    rintro e w8 ⟨AG, cG, rfl, vG, k5⟩
    have y8 : w4.heap.size < w8.heap.size := by have := k5.size; omega
    have x0 := (k5.cell (p := ⟨w4.heap.size, 0, none⟩) (by show w4.heap.size < _; omega)).trans x0
    have x1 := (k5.cell (p := ⟨w4.heap.size, 1, none⟩) (by show w4.heap.size < _; omega)).trans x1
    have k5' := Below.step kb k5
    have z8 : w.heap.size < w8.heap.size := Nat.lt_of_lt_of_le z4 k5'.size
    have a0 := (k5'.cell z4).trans a0
    have a1 := (k5'.cell z4).trans a1
    have hA8 := hA4.below k5'
    have h8 := o4.below k5'
    have wr8 := wr4.keep (S := fun _ => False) (Keep.of_below k5') hg4' id
    have K8 := Below.step K4 k5'
    have vW8 := vW4.below k5'
    clear k5 k5' K4 hA4 o4 S kb vW4 wr4
    go_wp2_with fail
    refine (eqI_ok _ _ _ _ _ _ _ _ _ hN vG vW8).mono ?_
    rintro e w9 ⟨rfl, m9, hw9⟩
    have x0 : w9.cell? ⟨w4.heap.size, 0, none⟩ = some (.string s) := by rw [hw9]; exact x0
    have x1 : w9.cell? ⟨w4.heap.size, 1, none⟩ = some (.slice (some ⟨g4, 0, none⟩) rs.length c4) := by rw [hw9]; exact x1
    have a0 : w9.cell? ⟨w.heap.size, 0, none⟩ = some (.string s) := by rw [hw9]; exact a0
    have a1 : w9.cell? ⟨w.heap.size, 1, none⟩ = some (.slice A rs.length c) := by rw [hw9]; exact a1
    have hA9 : RRd w9 A rs := by rw [hw9]; exact hA8
    have h9 : RRd w9 (some ⟨g4, 0, none⟩) rs := by rw [hw9]; exact h8
    have wr9 : Wr w9 g4 0 (2 * rs.length) := by rw [hw9]; exact wr8
    have K9 : Below w.heap.size w w9 := by rw [hw9]; exact below_drewN K8 _
    have vG9 : VecN w9 wb.heap.size AG N F := by rw [hw9]; exact vG.drewN _
    have vW9 : VecN w9 w2.heap.size AW N F := by rw [hw9]; exact vW8.drewN _
    have y9 : w4.heap.size < w9.heap.size := by rw [hw9]; exact y8
    have z9 : w.heap.size < w9.heap.size := by omega
    clear hw9 hA8 h8 wr8 K8 vG vW8 z8
    go_wp2_with fail
    go_region_held3 (fun w' => w'.cell? ⟨w.heap.size, 0, none⟩ = some (.string s) ∧ w'.cell? ⟨w.heap.size, 1, none⟩ = some (.slice A rs.length c) ∧ w'.cell? ⟨w4.heap.size, 0, none⟩ = some (.string s) ∧ w'.cell? ⟨w4.heap.size, 1, none⟩ = some (.slice (some ⟨g4, 0, none⟩) rs.length c4))
      (first | (exact ⟨a0, a1, x0, x1⟩) | (exact s10) | (exact s11))
      (first
      | (go_at_call 28; refine (toGrammar_any s A c rs _ (by exact hA9) hle).mono ?_; rintro e w10 ⟨g10, c10, rfl, _, _, o10, _, k10⟩; have s10 := four_below k10 (by exact z9) (by exact y9) (And.intro a0 (And.intro a1 (And.intro x0 x1))); have z10 := Nat.lt_of_lt_of_le z9 k10.size; have y10 := Nat.lt_of_lt_of_le y9 k10.size; have h10 := RRd.below (w := w9.drew) (by exact h9) k10; have kk10 : Below w9.heap.size w9 w10 := (Below.refl _ _).drew.trans k10; clear k10)
      | (go_at_call 19; refine (eqGrammar_ok _ _ _ _ _ _ _ h10 o10 hn).mono ?_; rintro e w11 ⟨rfl, k11⟩; have s11 := four_below k11 (by exact z10) (by exact y10) s10; have kk11 : Below w9.heap.size w9 w11 := Below.step kk10 k11; clear k11))
    obtain ⟨a0, a1, x0, x1⟩ := s11
    have wr11 := wr9.keep (S := fun _ => False) (Keep.of_below kk11) (by omega) id
    have vG11 := vG9.below kk11
    have vW11 := vW9.below kk11
    have K11 := Below.step K9 kk11
    have z11 : w4.heap.size < w11.heap.size := Nat.lt_of_lt_of_le y9 kk11.size
    clear kk11 kk10 wr9 vG9 vW9 K9 hA9 h9 s10 h10 o10 y9 z9 z10 y10
    have hl8 : rs.length ≤ 1048576 := hle
    go_wp2_with fail
    refine (markGrammar_at s g4 rs.length c4 _ 1 rfl _ (by omega) wr11 (by decide) (by decide) (by omega)).mono ?_
    rintro e w12 ⟨rfl, k12, _⟩
    have z12 := k12.size
    have a0 := (k12.cell (p := ⟨w.heap.size, 0, none⟩) (by show w.heap.size < _; omega) (by show ¬ w.heap.size = g4; omega)).trans a0
    have a1 := (k12.cell (p := ⟨w.heap.size, 1, none⟩) (by show w.heap.size < _; omega) (by show ¬ w.heap.size = g4; omega)).trans a1
    have vG12 := vG11.keep k12 (fun b _ _ hB _ e => by omega)
    have vW12 := vW11.keep k12 (fun b h0 hA _ _ e => by have := hW b hA h0; omega)
    have K12 := k12.below K11 (by omega) (fun k h => by subst h; omega)
    obtain ⟨q, hq⟩ : ∃ q : Nat, 1 + 2 * rs.length = q := ⟨_, rfl⟩
    rw [hq]
    clear k12 vG11 vW11 K11 wr11 hq
    go_wp2_with fail
    refine (eqI_ok _ _ _ _ _ _ _ _ _ hN vG12 vW12).mono ?_
    rintro e w13 ⟨rfl, m13, hw13⟩
    have a0 : w13.cell? ⟨w.heap.size, 0, none⟩ = some (.string s) := by rw [hw13]; exact a0
    have a1 : w13.cell? ⟨w.heap.size, 1, none⟩ = some (.slice A rs.length c) := by rw [hw13]; exact a1
    have K13 : Below w.heap.size w w13 := by rw [hw13]; exact below_drewN K12 _
    have vG13 : VecN w13 wb.heap.size AG N F := by rw [hw13]; exact vG12.drewN _
    have vW13 : VecN w13 w2.heap.size AW N F := by rw [hw13]; exact vW12.drewN _
    have z13 : w12.heap.size = w13.heap.size := by rw [hw13]; rfl
    clear hw13 vG12 vW12 K12
    go_wp2_with fail
    have zwb : w.heap.size ≤ wb.heap.size := by omega
    refine (markI_at _ _ _ _ _ _ hN vG13).mono ?_
    rintro e w14 ⟨rfl, m14, k14⟩
    have z14 := k14.size
    have a0 := (k14.cell (p := ⟨w.heap.size, 0, none⟩) (by show w.heap.size < _; omega) (fun h => by have := h.2; have h2 : wb.heap.size ≤ w.heap.size := this; omega)).trans a0
    have a1 := (k14.cell (p := ⟨w.heap.size, 1, none⟩) (by show w.heap.size < _; omega) (fun h => by have := h.2; have h2 : wb.heap.size ≤ w.heap.size := this; omega)).trans a1
    have vW14 := vW13.keep k14 (fun b h0 hA _ _ e => by have := hW b hA h0; have := e.2; omega)
    have K14 := k14.below K13 (by omega) (fun k h => by have := h.2; omega)
    clear k14 vG13 vW13 K13
    go_wp2_with fail
    refine (heldI_at _ _ _ _ _ hN m14).mono ?_
    rintro e w15 ⟨rfl, rfl⟩
    have hA14 := hA.below K14
    have z14' : w.heap.size < w15.heap.size := by omega
    go_wp2_with fail
    refine (toGrammar_any _ _ _ _ _ hA14 hle).mono ?_
    rintro e w16 ⟨g6, c6, rfl, _, _, o6, _, k6⟩
    have vW16 := vW14.below k6
    have m16 := m14.below k6
    have K16 := Below.step K14 k6
    clear k6 vW14 m14 K14 hA14 a0 a1
    go_wp2_with fail
    refine (I _ _ _ o6).mono ?_
    rintro e w17 ⟨AH, cH, rfl, vH, k7⟩
    have vW17 := vW16.below k7
    have m17 := m16.below k7
    have K17 := Below.step K16 k7
    clear k7 vW16 m16 K16 o6 I
    go_wp2_with fail
    refine (eqI_ok _ _ _ _ _ _ _ _ _ hN vH vW17).mono ?_
    rintro e w18 ⟨rfl, m18, hw18⟩
    have m18' : VecN w18 wb.heap.size AG N (mkF 1) := by rw [hw18]; exact m17.drewN _
    have K18 : Below w.heap.size w w18 := by rw [hw18]; exact below_drewN K17 _
    clear hw18 vW17 vH m17 K17
    go_wp2_with fail
    refine (heldI_at _ _ _ _ _ hN m18').mono ?_
    rintro e w19 ⟨rfl, rfl⟩
    go_wp2
    go_ret
    exact ⟨rfl, K18⟩
end Go.Proofs.Ytfblpibioegmkaa
