/- What a drawn sheet gives. Plain. -/
import Derived.Test.YtcdipgkdbannmaaShQ
import Derived.Test.YtcdipgkdbannmaaShS
import Derived.Test.YtcdipgkdbannmaaCont
namespace Go.Proofs.Ytcdipgkdbannmaa
open Go.RowKit

theorem hqcn {lev t : Nat} (ht : t < 33) (h : cn .f32 lev = hq ((t : Int) - 16)) : finB (cn .f32 lev) = true := by rw [h]; exact hq_fin t ht
theorem DSh.cl {W H : Nat} {xs : List Nat} (D : DSh W H xs) : ∀ x ∈ cl xs, ∃ i : Nat, i < 33 ∧ x = hq ((i : Int) - 16) := fun x hx => by
  unfold Proofs.Ytcdipgkdbannmaa.cl at hx
  obtain ⟨y, hy, rfl⟩ := List.mem_map.1 hx
  exact D.2.2.2.2.2 y hy
theorem DSh.sheet {W H : Nat} {xs : List Nat} (D : DSh W H xs) : shB W H xs = true := by
  obtain ⟨a, b, c, d, e, f⟩ := D
  have hf : finL xs = true := by
    unfold finL
    rw [List.all_eq_true]
    intro x hx
    obtain ⟨i, hi, h⟩ := f x hx
    exact hqcn hi h
  unfold shB
  rw [hf]
  simp
  refine ⟨⟨⟨by omega, by omega⟩, by omega, by omega⟩, ?_⟩
  rw [e, Int.natCast_mul]
/-- The contour of a drawn sheet. -/
structure ShF (W H : Nat) (xs : List Nat) (lev : Nat) : Prop where
  ok : ctOk W H xs lev = true
  ct : ctL W H xs lev = coL (cl xs) W (cn .f32 lev) (visR W 1 (H * W)) (visC W H 1 (H * W))
  cb : conB W H xs lev = true
  cn : conL W H xs lev = ctL W H xs lev
  pt : ∀ p ∈ ctL W H xs lev, inB p.1 (W - 1) = true ∧ inB p.2 (H - 1) = true
  few : (ctL W H xs lev).length ≤ 600
  co : 0 < (ctL W H xs lev).length ↔ 0 < cntN (ovB (cl xs) (Proofs.Ytcdipgkdbannmaa.cn .f32 lev)) (W * H) ∧ cntN (ovB (cl xs) (Proofs.Ytcdipgkdbannmaa.cn .f32 lev)) (W * H) < W * H
theorem inB_fin {p m : Nat} (h : inB p m = true) : finB p = true := by
  unfold inB at h
  rw [Bool.and_eq_true, Bool.and_eq_true] at h
  exact h.1.1
theorem DSh.facts {W H : Nat} {xs : List Nat} (D : DSh W H xs) {lev t : Nat} (ht : t < 33) (h : cn .f32 lev = hq ((t : Int) - 16)) : ShF W H xs lev := by
  have hs := D.sheet
  have hf := hqcn ht h
  have hok : ctOk W H xs lev = true := by unfold ctOk; rw [hs, hf]; rfl
  have hct : ctL W H xs lev = coL (Proofs.Ytcdipgkdbannmaa.cl xs) W (cn .f32 lev) (visR W 1 (H * W)) (visC W H 1 (H * W)) := by unfold ctL; rw [hok]; rfl
  have hcl := D.cl
  obtain ⟨a, b, c, d, e, f⟩ := D
  have hpt : ∀ p ∈ ctL W H xs lev, inB p.1 (W - 1) = true ∧ inB p.2 (H - 1) = true := by
    rw [hct, h]
    exact cont_ok a b c d ht (by unfold Proofs.Ytcdipgkdbannmaa.cl; rw [List.length_map]; exact e) hcl
  have hfin : finQ (ctL W H xs lev) = true := by
    unfold finQ
    rw [List.all_eq_true]
    intro p hp
    obtain ⟨x, y⟩ := hpt p hp
    rw [inB_fin x, inB_fin y]; rfl
  obtain ⟨y1, y2⟩ := con_yes hok hfin
  refine ⟨hok, hct, y1, y2, hpt, ?_, ?_⟩
  · rw [← y2]; exact conL_len _ _ _ _
  · rw [hct]; exact coast_iff a
end Go.Proofs.Ytcdipgkdbannmaa
