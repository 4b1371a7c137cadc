/- What the walk of FnShores wants. -/
import Derived.Test.YtcdipgkdbannmaaShP
import Derived.Test.YtcdipgkdbannmaaShG
import Derived.Test.YtcdipgkdbannmaaContLaw
import Derived.Test.YtcdipgkdbannmaaRoughLaw
import Derived.Test.YtcdipgkdbannmaaCoastLaw
import Derived.Test.YtcdipgkdbannmaaVarioLaw
import Derived.Deep.RegionWith
import Derived.BigRegion
import Derived.Deep.RegionHeld3
import Derived.BigQuiet
namespace Go.Proofs.Ytcdipgkdbannmaa
open Go.RowKit

/-- The sheet in its box, and the other input. -/
structure ShV (w w' : World) (p : Nat) (W H : Nat) (AS : Option Addr) (xs : List Nat) (cs : Nat) (B : Option Addr) (M : Nat) : Prop where
  box : BoxS w' p W H AS xs.length cs
  fr : FRd w' AS xs
  b : BRd w' B M
  k : Below w.heap.size w w'
section
variable {w wa wb : World} {p W H : Nat} {AS : Option Addr} {xs : List Nat} {cs : Nat} {B : Option Addr} {M : Nat}
theorem ShV.below (h : ShV w wa p W H AS xs cs B M) (k : Below wa.heap.size wa wb) : ShV w wb p W H AS xs cs B M := ⟨h.box.below k, Rd.below h.fr k, h.b.below k, Below.step h.k k⟩
theorem ShV.drewN (h : ShV w wa p W H AS xs cs B M) (n : Nat) : ShV w (wa.drewN n) p W H AS xs cs B M := h.below (below_drewN (Below.refl _ _) n)
end
theorem cntN_succ (f : Nat → Bool) (n : Nat) : cntN f (n + 1) = cntN f n + (if f n then 1 else 0) := by
  unfold cntN
  rw [List.range_succ, List.countP_append, List.countP_singleton]
theorem cntN_le (f : Nat → Bool) (n : Nat) : cntN f n ≤ n := by
  unfold cntN
  have := List.countP_le_length (p := f) (l := List.range n)
  rw [List.length_range] at this
  exact this
theorem inB_parts {x m : Nat} (h : inB (cn .f32 x) m = true) : (ford .f32 (cn .f32 x) (cn .f32 0) == some .lt) = false ∧ (ford .f64 (cn .f64 (c64 (cn .f32 x))) (cn .f64 (fop .add .f64 (cn .f64 (floatOfInt .f64 (m : Int))) (cn .f64 4562254508917369340))) == some .gt) = false ∧ wdr x = 0 ∧ ∀ w, wres x w = c64 (cn .f32 x) := by
  unfold inB at h
  rw [Bool.and_eq_true, Bool.and_eq_true, Bool.not_eq_true', Bool.not_eq_true'] at h
  obtain ⟨⟨h1, h2⟩, h3⟩ := h
  have hn : isN .f32 x = false := by
    rw [← isN_cn]
    cases hx : isN .f32 (cn .f32 x)
    · rfl
    · exfalso
      obtain ⟨s, e, j, hr⟩ := finB_num h1
      unfold isN at hx
      rw [show FloatKind.f32.format.read (cn .f32 x) = .number s e j from hr] at hx
      cases hx
  exact ⟨h2, by rw [ford_cn]; exact h3, by unfold wdr; rw [hn]; rfl, fun w => by unfold wres c64; rw [isN_cn, hn, cn_of_not hn]; rfl⟩
/-- The heights up to one. -/
def slpN (j n : Nat) : List Nat := (List.range n).map fun k : Nat => fop .mul .f32 (slp j) (cn .f32 (floatOfInt .f32 (k : Int)))
theorem slpN_succ (j n : Nat) : slpN j (n + 1) = slpN j n ++ [fop .mul .f32 (slp j) (cn .f32 (floatOfInt .f32 (n : Int)))] := by simp [slpN, List.range_succ]
theorem slpN_len (j n : Nat) : (slpN j n).length = n := by simp [slpN]
theorem slpN_8 (j : Nat) : slpN j 8 = slpL j := rfl
/-- In the loop that makes a row. -/
structure RowI (wc wr : World) (q b0 : Nat) (acc : List Nat) (A : Option Addr) (c : Nat) : Prop where
  box : BoxS wr q 8 1 A acc.length c
  can : Can3 wr q
  own : wr.ownsRow b0 26 1 (.slice A acc.length c) acc.length (acc.map fv)
  hq : wc.heap.size ≤ q
  hb : q < b0
  hz : b0 ≤ wr.heap.size
  keep : Below wc.heap.size wc wr
theorem RowI.push {wc wr w' : World} {q b0 : Nat} {acc : List Nat} {A A' : Option Addr} {c c' : Nat} (I : RowI wc wr q b0 acc A c) (x : Nat) (k : Below b0 wr w') (o : w'.ownsRow b0 26 1 (.slice A' (acc.length + 1) c') (acc.length + 1) (acc.map fv ++ [fv x])) :
    RowI wc (w'.setCell ⟨q, 2, none⟩ (.slice A' (acc.length + 1) c')) q b0 (acc ++ [x]) A' c' := by
  have hq := I.hq; have hb := I.hb; have hz := I.hz
  have hfm : (acc ++ [x]).map fv = acc.map fv ++ [fv x] := by simp
  have hln : (acc ++ [x]).length = acc.length + 1 := by simp
  have hne : (Value.slice A' (acc.length + 1) c').ownBlock ≠ some q := fun e => by have := (o.lt _ e).1; omega
  refine ⟨⟨by have := I.box.lt; have := k.size; simp [World.setCell]; omega, (World.cell?_setCell_other _ _ _ _ (by simp)).trans ((k.cell (p := ⟨q, 0, none⟩) hb).trans I.box.c0), (World.cell?_setCell_other _ _ _ _ (by simp)).trans ((k.cell (p := ⟨q, 1, none⟩) hb).trans I.box.c1), ?_⟩,
    (I.can.of_block k.size (k.block q hb)).set _ _, ?_, hq, hb, by have := k.size; simp [World.setCell]; omega, (I.keep.trans (k.mono (by omega))).setCell (p := ⟨q, 2, none⟩) hq _⟩
  · rw [hln]; exact World.cell?_setCell_same _ _ _ ((k.cell (p := ⟨q, 2, none⟩) hb).trans I.box.c2)
  · rw [hln, hfm]
    exact ownsRow_setCell_other o hne _
theorem det_some {op : BinOp} {k : FloatKind} {x y r : Nat} (h : floatBits op k x y = some r) : (∀ w, fres op k x y w = r) ∧ fdr op k x y = 0 :=
  ⟨fun w => by unfold fres; rw [h], by unfold fdr; rw [h]⟩
theorem slope_bits : ∀ j, j < 8 → floatBits .quo .f32 (floatOfInt .f32 ((j + 1 : Nat) : Int)) 1082130432 = some (slp j) := by decide +kernel
theorem slope_det : ∀ j, j < 8 → (∀ w, fres .quo .f32 (floatOfInt .f32 (1 + (j : Nat) : Int)) 1082130432 w = slp j) ∧ fdr .quo .f32 (floatOfInt .f32 (1 + (j : Nat) : Int)) 1082130432 = 0 := by
  intro j hj
  have h := slope_bits j hj
  rw [show ((j + 1 : Nat) : Int) = 1 + (j : Nat) by omega] at h
  exact det_some h
theorem prod_det : ∀ j, j < 8 → ∀ k, k < 8 → (∀ w, fres .mul .f32 (slp j) (floatOfInt .f32 ((k : Nat) : Int)) w = fop .mul .f32 (slp j) (cn .f32 (floatOfInt .f32 (k : Int)))) ∧ fdr .mul .f32 (slp j) (floatOfInt .f32 ((k : Nat) : Int)) = 0 := by
  have h : ∀ j, j < 8 → ∀ k, k < 8 → floatBits .mul .f32 (slp j) (floatOfInt .f32 ((k : Nat) : Int)) = some (fop .mul .f32 (slp j) (cn .f32 (floatOfInt .f32 (k : Int)))) := by decide +kernel
  exact fun m hm k hk => det_some (h m hm k hk)
theorem lim_det : ∀ m, m < 6 → (∀ w, fres .add .f64 (floatOfInt .f64 ((m : Nat) : Int)) 4562254508917369340 w = fop .add .f64 (cn .f64 (floatOfInt .f64 ((m : Nat) : Int))) (cn .f64 4562254508917369340)) ∧ fdr .add .f64 (floatOfInt .f64 ((m : Nat) : Int)) 4562254508917369340 = 0 := by
  have h : ∀ m, m < 6 → floatBits .add .f64 (floatOfInt .f64 ((m : Nat) : Int)) 4562254508917369340 = some (fop .add .f64 (cn .f64 (floatOfInt .f64 ((m : Nat) : Int))) (cn .f64 4562254508917369340)) := by decide +kernel
  exact fun m hm => det_some (h m hm)
theorem slp_sheet {j : Nat} (hj : j < 8) : shB (8 : Nat) (1 : Nat) (slpN j 8) = true := by
  unfold shB
  rw [slpN_len, slpN_8, slp_fin j hj]
  decide
theorem va_row {j g : Nat} (hj : j < 8) (hg : g < 6) (A : Option Addr) (c : Nat) (w : World) (hA : FRd w A (slpN j 8)) :
    Calls Try.prog 12 #[.agg #[.int .i64 8, .int .i64 1, .slice A 8 c], .int .i64 (1 + (g : Int))] w (NumB w (vaX (slpL j) 8 1 (g + 1)) true) := by
  have h := implV_any 8 1 A c (slpN j 8) (g + 1) w hA (by rw [slpN_len]; decide) (slp_sheet hj) (by omega) (by omega)
  rw [slpN_len, show ((g + 1 : Nat) : Int) = 1 + (g : Int) by omega, slpN_8, slp_va j hj g hg] at h
  exact h
theorem va_row8 {j : Nat} (hj : j < 8) (A : Option Addr) (c : Nat) (w : World) (hA : FRd w A (slpN j 8)) :
    Calls Try.prog 12 #[.agg #[.int .i64 8, .int .i64 1, .slice A 8 c], .int .i64 8] w (NumB w (vaX (slpL j) 8 1 8) false) := by
  have h := implV_any 8 1 A c (slpN j 8) 8 w hA (by rw [slpN_len]; decide) (slp_sheet hj) (by omega) (by omega)
  rw [slpN_len, slpN_8, slp_va8 j hj] at h
  exact h
theorem rg_row {j : Nat} (hj : j < 8) (A : Option Addr) (c : Nat) (w : World) (hA : FRd w A (slpN j 8)) :
    Calls Try.prog 26 #[.agg #[.int .i64 8, .int .i64 1, .slice A 8 c], .int .i64 4] w (NumB w (rgX (slpL j) 8 1 4) true) := by
  have h := implR_any 8 1 A c (slpN j 8) 4 w hA (by rw [slpN_len]; decide) (slp_sheet hj) (by omega) (by omega)
  rw [slpN_len, slpN_8, slp_rg j hj] at h
  exact h
theorem num_wide {x : Nat} (h : isN .f32 x = false) : wdr x = 0 ∧ (∀ w, wres x w = c64 (cn .f32 x)) ∧ cn .f64 (c64 (cn .f32 x)) = c64 (cn .f32 x) := by
  refine ⟨by unfold wdr; rw [h]; rfl, fun w => by unfold wres c64; rw [isN_cn, h, cn_of_not h]; rfl, ?_⟩
  unfold c64
  rw [isN_cn, h, cn_of_not h]
  exact cn_of_not (isN_write .f64 _ h)
theorem va_num : ∀ j, j < 8 → ∀ g, g < 6 → isN .f32 (vaX (slpL j) 8 1 (g + 1)) = false := by decide +kernel
theorem rg_num : ∀ j, j < 8 → isN .f32 (rgX (slpL j) 8 1 4) = false := by decide +kernel
theorem slp_num : ∀ j, j < 8 → isN .f32 (slp j) = false ∧ cn .f32 (slp j) = slp j := by decide +kernel
theorem w1_bits : ∀ j, j < 8 → floatBits .mul .f64 4602678819172646912 (c64 (slp j)) = some (fop .mul .f64 (cn .f64 4602678819172646912) (c64 (slp j))) := by decide +kernel
theorem w2_bits : ∀ j, j < 8 → floatBits .mul .f64 (fop .mul .f64 (cn .f64 4602678819172646912) (c64 (slp j))) (c64 (slp j)) = some (fop .mul .f64 (fop .mul .f64 (cn .f64 4602678819172646912) (c64 (slp j))) (c64 (slp j))) := by decide +kernel
theorem w3_bits : ∀ j, j < 8 → ∀ g, g < 6 → floatBits .mul .f64 (fop .mul .f64 (fop .mul .f64 (cn .f64 4602678819172646912) (c64 (slp j))) (c64 (slp j))) (floatOfInt .f64 (((g + 1) * (g + 1) : Nat) : Int)) = some (wantV j g) := by decide +kernel
theorem w4_bits : ∀ j, j < 8 → ∀ g, g < 6 → floatBits .add .f64 4607182418800017408 (wantV j g) = some (fop .add .f64 (cn .f64 4607182418800017408) (wantV j g)) := by decide +kernel
theorem w5_bits : ∀ j, j < 8 → ∀ g, g < 6 → floatBits .mul .f64 4562254508917369340 (fop .add .f64 (cn .f64 4607182418800017408) (wantV j g)) = some (fop .mul .f64 (cn .f64 4562254508917369340) (fop .add .f64 (cn .f64 4607182418800017408) (wantV j g))) := by decide +kernel
theorem want_all {j g : Nat} (hj : j < 8) (hg : g < 6) : ∃ (C M1 M2 WV M4 M5 : Nat) (G : Int), wrap64 ((1 + (g : Int)) * (1 + (g : Int))) = G ∧ wdr (slp j) = 0 ∧ (∀ w, wres (slp j) w = C) ∧
    ((∀ w, fres .mul .f64 4602678819172646912 C w = M1) ∧ fdr .mul .f64 4602678819172646912 C = 0) ∧ ((∀ w, fres .mul .f64 M1 C w = M2) ∧ fdr .mul .f64 M1 C = 0) ∧ ((∀ w, fres .mul .f64 M2 (floatOfInt .f64 G) w = WV) ∧ fdr .mul .f64 M2 (floatOfInt .f64 G) = 0) ∧
    ((∀ w, fres .add .f64 4607182418800017408 WV w = M4) ∧ fdr .add .f64 4607182418800017408 WV = 0) ∧ ((∀ w, fres .mul .f64 4562254508917369340 M4 w = M5) ∧ fdr .mul .f64 4562254508917369340 M4 = 0) ∧
    ∀ v, cn .f32 v = vaX (slpL j) 8 1 (g + 1) → wdr v = 0 ∧ ∃ V, (∀ w, wres v w = V) ∧ ∀ r, cn .f64 r = gap (cn .f64 V) (cn .f64 WV) → (ford .f64 (cn .f64 r) (cn .f64 M5) == some .lt) = true := by
  obtain ⟨n1, n2⟩ := slp_num j hj
  obtain ⟨a1, a2, _⟩ := num_wide n1
  rw [n2] at a2
  refine ⟨_, _, _, _, _, _, (((g + 1) * (g + 1) : Nat) : Int), ?_, a1, a2, det_some (w1_bits j hj), det_some (w2_bits j hj), det_some (w3_bits j hj g hg), det_some (w4_bits j hj g hg), det_some (w5_bits j hj g hg), fun v hv => ?_⟩
  · have h1 : (1 + (g : Int)) = ((g + 1 : Nat) : Int) := by omega
    have h2 : (g + 1) * (g + 1) ≤ 6 * 6 := Nat.mul_le_mul (by omega) (by omega)
    rw [h1, ← Int.natCast_mul]
    unfold wrap64
    omega
  · have hn := va_num j hj g hg
    rw [← hv, isN_cn] at hn
    obtain ⟨b1, b2, b3⟩ := num_wide hn
    refine ⟨b1, _, b2, fun r hr => ?_⟩
    have hw : cn .f64 (wantV j g) = wantV j g := cn_fop _ _ _ _
    rw [b3, hw, hv] at hr
    rw [hr, cn_fop]
    exact slp_gap j hj g hg
theorem rough_all {j : Nat} (hj : j < 8) : ∀ v, cn .f32 v = rgX (slpL j) 8 1 4 → wdr v = 0 ∧ ∃ V, (∀ w, wres v w = V) ∧ ∀ r, cn .f64 r = gap (cn .f64 V) (cn .f64 4607182418800017408) → (ford .f64 (cn .f64 r) (cn .f64 4576918229304087675) == some .lt) = true := by
  intro v hv
  have hn := rg_num j hj
  rw [← hv, isN_cn] at hn
  obtain ⟨b1, b2, b3⟩ := num_wide hn
  refine ⟨b1, _, b2, fun r hr => ?_⟩
  rw [b3, hv] at hr
  rw [hr]
  exact slp_rough j hj
end Go.Proofs.Ytcdipgkdbannmaa
