/- l05Own: a sheet with a copy of the heights. -/
import Derived.Test.YtenepnbickpcjaaFlat3
import Derived.Test.YtenepnbickpcjaaPush
import Derived.Deep.RegionWith
import Derived.Deep.RegionHeld3
import Derived.BigRegion
import Derived.Deep.RegionLaw
import Derived.Deep.AppendLies
namespace Go.Proofs.Ytenepnbickpcjaa
open Go.RowKit

theorem own_made_at (w : World) (base : Nat) (e : TypeId) (s : Nat) (hs : s = w.heap.size) (hb : base ≤ w.heap.size) : (w.alloc (.cells #[] e)).ownsRow base e 1 (.slice (some ⟨s, 0, none⟩) 0 0) 0 [] := by
  subst hs
  exact own_made0 w base e hb
theorem FRd.cells {W : World} {b o : Nat} {xs : List Nat} (hW : FRd W (some ⟨b, o, none⟩) xs) : ∀ j u, (xs.map fv)[j]? = some u → W.cell? ((⟨b, o, none⟩ : Addr).add j) = some u := by
  intro j u hu
  obtain ⟨b', o', hA', _, hc⟩ := hW j u hu
  cases hA'
  have hadd : (⟨b, o, none⟩ : Addr).add j = ⟨b, o + j, none⟩ := by unfold Addr.add; split <;> simp_all
  rw [hadd]
  exact hc
theorem cell_put3 {w : World} {p g j : Nat} (h : p ≠ g) (x y z : Value) : (((w.setCell ⟨g, 0, none⟩ x).setCell ⟨g, 1, none⟩ y).setCell ⟨g, 2, none⟩ z).cell? ⟨p, j, none⟩ = w.cell? ⟨p, j, none⟩ := by
  have hn : ∀ i, (⟨p, j, none⟩ : Addr) ≠ ⟨g, i, none⟩ := fun i e => h (congrArg Addr.block e)
  rw [World.cell?_setCell_other _ _ _ _ (by first | exact hn 2 | exact (hn 2).symm), World.cell?_setCell_other _ _ _ _ (by first | exact hn 1 | exact (hn 1).symm), World.cell?_setCell_other _ _ _ _ (by first | exact hn 0 | exact (hn 0).symm)]
set_option maxRecDepth 100000 in
set_option maxHeartbeats 4000000 in
theorem l05Own_any (p : Nat) (sw sh : Int) (A : Option Addr) (c : Nat) (xs : List Nat) (w : World) (hA : FRd w A xs) (h0 : 0 < xs.length) (hn : xs.length ≤ 289)
    (c0 : w.cell? ⟨p, 0, none⟩ = some (.int .i64 sw)) (c1 : w.cell? ⟨p, 1, none⟩ = some (.int .i64 sh)) (c2 : w.cell? ⟨p, 2, none⟩ = some (.slice A xs.length c)) :
    Calls Try.prog 64 #[.pointer (some ⟨p, 0, none⟩)] w (NewSh w sw sh xs) := by
  obtain ⟨i0, hi, hz0, hz1, hz2⟩ := info_parts info.f32
  obtain ⟨b, o, rfl, hb, hc0⟩ := hA.at_ h0
  have hp : p < w.heap.size := World.block_lt_of_cell? w _ c0
  have hp1 : p < w.heap.size + 1 := by omega
  let W2 := ((w.alloc (.cells #[.int .i64 0, .int .i64 0, .slice none 0 0] 33)).alloc (.cells #[] 22))
  have hR2 : Rd W2 (some ⟨b, o, none⟩) (xs.map fv) := (Rd.below hA (below_alloc _ _)).below (below_alloc _ _)
  have HC := Lib.hid (FRd.cells (W := W2.drew) hR2)
  have H1 := Lib.hid (show ∀ u ∈ xs.map fv, u.oneCell' = true by intro u hu; obtain ⟨b, _, rfl⟩ := List.mem_map.1 hu; rfl)
  have HO := Lib.hid (show W2.drew.ownsRow (w.heap.size + 1) 22 1 (.slice (some ⟨w.heap.size + 1, 0, none⟩) 0 0) 0 [] from own_made_at _ (w.heap.size + 1) 22 _ (by simp) (by simp))
  have HB := Lib.hid (show w.heap.size + 1 ≤ W2.drew.heap.size from by show w.heap.size + 1 ≤ W2.heap.size; simp [W2])
  have hW2 : Below w.heap.size w W2.drew := (Below.step (below_alloc _ _) (below_alloc _ _)).drew
  have C0 := Lib.hid (show W2.drew.cell? ⟨p, 0, none⟩ = _ from (hW2.cell hp).trans c0)
  have C1 := Lib.hid (show W2.drew.cell? ⟨p, 1, none⟩ = _ from (hW2.cell hp).trans c1)
  have C2 := Lib.hid (show W2.drew.cell? ⟨p, 2, none⟩ = _ from (hW2.cell hp).trans c2)
  have B0 := Lib.hid (show (w.alloc (.cells #[.int .i64 0, .int .i64 0, .slice none 0 0] 33)).drew.cell? ⟨p, 0, none⟩ = _ from ((below_alloc _ _).drew.cell hp).trans c0)
  have B1 := Lib.hid (show (w.alloc (.cells #[.int .i64 0, .int .i64 0, .slice none 0 0] 33)).drew.cell? ⟨p, 1, none⟩ = _ from ((below_alloc _ _).drew.cell hp).trans c1)
  have B2 := Lib.hid (show (w.alloc (.cells #[.int .i64 0, .int .i64 0, .slice none 0 0] 33)).drew.cell? ⟨p, 2, none⟩ = _ from ((below_alloc _ _).drew.cell hp).trans c2)
  have HW := Lib.hid hW2
  clear hW2 hR2
  go_enter Try.func64, Try.ntmps64
  go_wp2_with fail
  go_region_held3 (fun w' => w'.cell? ⟨p, 0, none⟩ = some (.int .i64 sw) ∧ w'.cell? ⟨p, 1, none⟩ = some (.int .i64 sh) ∧ w'.cell? ⟨p, 2, none⟩ = some (.slice (some ⟨b, o, none⟩) xs.length c))
    (first | (exact ⟨B0.out, B1.out, B2.out⟩) | (exact ⟨C0.out, C1.out, C2.out⟩) | (exact qq) | (exact qs _ _ _))
    ((refine step_append_lies _ rfl _ _ 28 rfl (w.heap.size + 1) 22 i0 (.float .f32 0) 1 4 Try.underlying28 hi hz0 hz1 hz2 rfl (by decide) (.slice (some ⟨w.heap.size + 1, 0, none⟩) 0 0) 0 [] (by simp [Act.eval]) HO.out ⟨b, o, none⟩ xs.length c (xs.map fv) (by simp [Act.eval]) (by rw [List.length_map, Nat.mul_one]) HC.out H1.out h0 (by unfold maxLen; omega) (by omega) HB.out _ rfl ?_; intro g cap w' hown' hg hpl hlt; have kb := hg.block w.heap.size (by simp <;> omega) (by simp [Value.ownBlock]); have kp := hg.block p (by simp <;> omega) (by simp [Value.ownBlock] <;> omega); have qq := And.intro ((World.cell?_of_block kp).trans C0.out) (And.intro ((World.cell?_of_block kp).trans C1.out) ((World.cell?_of_block kp).trans C2.out)); have qs := (fun x y z => And.intro ((cell_put3 (by omega) x y z).trans qq.1) (And.intro ((cell_put3 (by omega) x y z).trans qq.2.1) ((cell_put3 (by omega) x y z).trans qq.2.2)) : ∀ x y z, (((w'.setCell ⟨w.heap.size, 0, none⟩ x).setCell ⟨w.heap.size, 1, none⟩ y).setCell ⟨w.heap.size, 2, none⟩ z).cell? ⟨p, 0, none⟩ = some (.int .i64 sw) ∧ (((w'.setCell ⟨w.heap.size, 0, none⟩ x).setCell ⟨w.heap.size, 1, none⟩ y).setCell ⟨w.heap.size, 2, none⟩ z).cell? ⟨p, 1, none⟩ = some (.int .i64 sh) ∧ (((w'.setCell ⟨w.heap.size, 0, none⟩ x).setCell ⟨w.heap.size, 1, none⟩ y).setCell ⟨w.heap.size, 2, none⟩ z).cell? ⟨p, 2, none⟩ = some (.slice (some ⟨b, o, none⟩) xs.length c)); have d0 : w'.cell? ⟨w.heap.size, 0, none⟩ = some (.int .i64 0) := (World.cell?_of_block kb).trans (by simp); have d1 : w'.cell? ⟨w.heap.size, 1, none⟩ = some (.int .i64 0) := (World.cell?_of_block kb).trans (by simp); have d2 : w'.cell? ⟨w.heap.size, 2, none⟩ = some (.slice none 0 0) := (World.cell?_of_block kb).trans (by simp); have f0 : w'.frozen? ⟨w.heap.size, 0, none⟩ = false := (World.frozen?_of_block kb).trans (by simp); have f1 : w'.frozen? ⟨w.heap.size, 1, none⟩ = false := (World.frozen?_of_block kb).trans (by simp); have f2 : w'.frozen? ⟨w.heap.size, 2, none⟩ = false := (World.frozen?_of_block kb).trans (by simp)))
  have KW := Lib.hid (HW.out.grown hg (by have := HB.out; omega) (fun k h => by simp [Value.ownBlock] at h; omega))
  have ho : OwnS (w.heap.size + 1) w' (some ⟨g, 0, none⟩) (xs.map fv) := OwnS.of_own (by simpa using hown')
  have HO3 := Lib.hid ho
  clear hown' hg hpl ho qq qs kb kp HW HB HO HC H1 B0 B1 B2 C0 C1 C2
  go_wp2
  refine bodyPost_ret (v := shv sw sh (some ⟨g, 0, none⟩) xs.length cap) (by simp [results, Try.results64, go_sem, d0, d1, d2]) rfl ?_
  exact ⟨_, _, rfl, (own_put3 HO3.out (by omega) _ _ _).less (by omega), below_put3 KW.out (Nat.le_refl _)⟩
end Go.Proofs.Ytenepnbickpcjaa
