/- A slice of bytes that came in, opened. -/
import Derived.Test.YtamgekijihpgkaaSrc
import Derived.Test.YtamgekijihpgkaaFrame
import Derived.Test.YtamgekijihpgkaaOpenF2
import Derived.ChangeSlices
import Derived.Deep.Slices
namespace Go.Proofs.Ytamgekijihpgkaa
open Go.ChangeShapes Go.WideShapes Go.ChangeAt Go.RowKit Go.Deep

section
variable {H : Type} {enc : TypeId × Value → H} {P : Program}
theorem wf_u8 {n : Int} (h : (Lit.int .u8 n).wf = true) : 0 ≤ n ∧ n ≤ 255 := by
  simp [Lit.wf, IntKind.min, IntKind.max, IntKind.bits, IntKind.signed] at h
  omega
theorem open_bytes {t e : TypeId} {W : World} {base : Nat} {v : Value} {d : DataW H} {p : List MemPlace} (ht : P.underlying t = some (.slice e)) (he : P.underlying e = some (.int .u8)) (hc : P.cellsOf e = 1)
    (hv : Value.okWide P W .any base t v) (h : DataW.Trod enc P W 0 (fun _ => true) true t v d p) :
    ∃ A L c, v = .slice A L c ∧ BRd W A L ∧ L ≤ maxLen := by
  obtain ⟨a0, len, cap, rfl⟩ := okWide_slice ht hv
  obtain ⟨fuel, hf⟩ := h
  rcases open_ints ht he hc hf with ⟨hcs, _⟩ | ⟨a, len', cap', zs, hcs, _, hl, hm, hz, _, hcell, hw⟩
  · simp only [Value.cells, List.cons.injEq, Value.slice.injEq, and_true] at hcs
    obtain ⟨rfl, rfl, rfl⟩ := hcs
    exact ⟨none, 0, 0, rfl, fun i hi => absurd hi (Nat.not_lt_zero _), Nat.zero_le _⟩
  · simp only [Value.cells, List.cons.injEq, Value.slice.injEq, and_true] at hcs
    obtain ⟨rfl, rfl, rfl⟩ := hcs
    simp only [if_true] at hz
    refine ⟨some a, len, cap, rfl, fun i hi => ?_, by omega⟩
    have h0 := hcell 0 (by omega)
    have hi2 := hcell i (by omega)
    obtain ⟨hs, hb⟩ := cell_plain h0
    obtain ⟨b, o, s⟩ := a
    have hs' : s = none := by
      have : (⟨b, o, s⟩ : Addr).add 0 = ⟨b, o, s⟩ := Addr.add_zero' _
      rw [this] at hs
      exact hs
    subst hs'
    have hb' : b < W.heap.size := by
      have : (⟨b, o, none⟩ : Addr).add 0 = ⟨b, o, none⟩ := Addr.add_zero' _
      rw [this] at hb
      exact hb
    rw [Addr.add_lit] at hi2
    have hmem : zs.getD i 0 ∈ zs := by
      rw [List.getD_eq_getElem?_getD, List.getElem?_eq_getElem (by omega)]
      exact List.getElem_mem _
    have hr := wf_u8 (hw _ hmem)
    refine ⟨b, o, (zs.getD i 0).toNat, rfl, hb', by omega, ?_⟩
    rw [hi2]
    congr 2
    omega
end
end Go.Proofs.Ytamgekijihpgkaa
