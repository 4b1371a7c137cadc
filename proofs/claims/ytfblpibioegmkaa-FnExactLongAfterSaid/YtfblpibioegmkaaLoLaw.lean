/- The walk of FnExactLongAfter. -/
import Derived.Test.YtfblpibioegmkaaL5
import Derived.Deep.RegionWith
import Derived.BigRegion
namespace Go.Proofs.Ytfblpibioegmkaa
open Go.RowKit
set_option maxRecDepth 100000 in
set_option maxHeartbeats 2000000 in
theorem loLaw (s : ByteArray) (A : Option Addr) (c : Nat) (rs : List RuleV) (n : Int) (w : World) (hA : RRd w A rs) (hn : rs.length ≤ maxLen) (hs : s.size ≤ maxLen) (hz : ∀ r ∈ rs, r.1.size ≤ maxLen ∧ r.2.size ≤ maxLen) :
    Calls Try.prog 11 #[.agg #[.string s, .slice A rs.length c], .int .i64 n] w fun e w' => e = .returned (.bool true) ∧ Below w.heap.size w w' := by
  have S : ∀ (A : Option Addr) (c : Nat) (w : World) (hA : RRd w A rs), Calls Try.prog 36 #[.agg #[.string s, .slice A rs.length c], .int .i64 n] w (fun e w2 => e = .returned (.tuple #[.int .i64 (loV s rs n), .bool (laB s rs n)]) ∧ Below w.heap.size w w2) := fun (A : Option Addr) (c : Nat) (w : World) (hA : RRd w A rs) => specLo_any s A c rs n w hA hn hs hz
  have I : ∀ (A : Option Addr) (c : Nat) (w : World) (hA : RRd w A rs), Calls Try.prog 37 #[.agg #[.string s, .slice A rs.length c], .int .i64 n] w (fun e w2 => e = .returned (.tuple #[.int .i64 (loV s rs n), .bool (laB s rs n)]) ∧ Below w.heap.size w w2) := fun (A : Option Addr) (c : Nat) (w : World) (hA : RRd w A rs) => implLo_any s A c rs n w hA hn hs hz
  generalize loV s rs n = G0 at S I
  generalize laB s rs n = G1 at S I
  go_enter Try.func11, Try.ntmps11
  go_wp2_with fail
  refine (szGrammar_any s A c rs _ _ (hA.below (below_alloc _ _)) hn (by omega) (by omega) hs hz).mono ?_
  rintro e w1 ⟨l, rfl, hl, k1⟩
  have z1 : w.heap.size < w1.heap.size := by have := k1.size; simp at this; omega
  have a0 : w1.cell? ⟨w.heap.size, 0, none⟩ = some (.string s) := (k1.cell (by simp)).trans (by simp)
  have a1 : w1.cell? ⟨w.heap.size, 1, none⟩ = some (.slice A rs.length c) := (k1.cell (by simp)).trans (by simp)
  have hA1 := (hA.below (below_alloc _ _)).below k1
  have K1 := Below.step (below_alloc _ _) k1
  clear k1
  by_cases hneg : l < 0
  · go_wp2
    go_ret
    exact ⟨rfl, K1⟩
  · have hle : rs.length ≤ 1048576 := by have := hl (by omega); unfold gwt at this; omega
    clear hl
    go_wp2_with fail
    refine (toGrammar_any _ _ _ _ _ hA1 hle).mono ?_
    rintro e w2 ⟨g2, c2, rfl, _, _, o2, _, k2⟩
    have z2 : w.heap.size < w2.heap.size := Nat.lt_of_lt_of_le z1 k2.size
    have a0 := (k2.cell z1).trans a0
    have a1 := (k2.cell z1).trans a1
    have hA2 := hA1.below k2
    have K2 := Below.step K1 k2
    clear k2 K1 hA1
    go_wp2_with fail
    refine (S _ _ _ o2).mono ?_
    rintro e w3 ⟨rfl, k3⟩
    have z3 : w.heap.size < w3.heap.size := Nat.lt_of_lt_of_le z2 k3.size
    have a0 := (k3.cell z2).trans a0
    have a1 := (k3.cell z2).trans a1
    have hA3 := hA2.below k3
    have K3 := Below.step K2 k3
    clear k3 K2 hA2 o2
    go_wp2_with fail
    refine (toGrammar_any _ _ _ _ _ hA3 hle).mono ?_
    rintro e w4 ⟨g4, c4, rfl, _, _, o4, _, k4⟩
    have z4 : w.heap.size < w4.heap.size := Nat.lt_of_lt_of_le z3 k4.size
    have a0 := (k4.cell z3).trans a0
    have a1 := (k4.cell z3).trans a1
    have hA4 := hA3.below k4
    have K4 := Below.step K3 k4
    clear k4 K3 hA3
    go_wp2_with fail
    refine (I _ _ _ (o4.below (below_alloc _ _))).mono ?_
    rintro e w8 ⟨rfl, k5⟩
    have x0 : w8.cell? ⟨w4.heap.size, 0, none⟩ = some (.string s) := (k5.cell (by simp)).trans (by simp)
    have x1 : w8.cell? ⟨w4.heap.size, 1, none⟩ = some (.slice (some ⟨g4, 0, none⟩) rs.length c4) := (k5.cell (by simp)).trans (by simp)
    have y8 : w4.heap.size < w8.heap.size := by have := k5.size; simp at this; omega
    have k5' := Below.step (below_alloc _ _) k5
    have z8 : w.heap.size < w8.heap.size := Nat.lt_of_lt_of_le z4 k5'.size
    have a0 := (k5'.cell z4).trans a0
    have a1 := (k5'.cell z4).trans a1
    have hA8 := hA4.below k5'
    have h8 := o4.below k5'
    have K8 := Below.step K4 k5'
    clear k5 k5' K4 hA4 o4 S I
    go_wp2_with fail
    go_region_with (first
      | (go_at_call 28; refine (toGrammar_any _ _ _ _ _ (by exact hA8) hle).mono ?_; rintro e w6 ⟨g6, c6, rfl, _, _, o6, _, k6⟩; have x0 := (k6.cell y8).trans x0; have x1 := (k6.cell y8).trans x1; have h6 := RRd.below (w := w8.drew) (by exact h8) k6; have K6 := Below.step K8.drew k6; clear k6)
      | (go_at_call 19; refine (eqGrammar_ok _ _ _ _ _ _ _ h6 o6 hn).mono ?_; rintro e w7 ⟨rfl, k7⟩; have K7 := Below.step K6 k7; clear k7))
    all_goals
      go_wp2
      go_ret
      exact ⟨rfl, K7⟩
end Go.Proofs.Ytfblpibioegmkaa
