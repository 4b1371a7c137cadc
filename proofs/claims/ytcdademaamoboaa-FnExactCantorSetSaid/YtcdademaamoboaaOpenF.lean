/- A slice of float32 that came in, opened. -/
import Derived.Test.YtcdademaamoboaaF32
import Derived.Test.YtcdademaamoboaaFrame
import Derived.Deep.Slices
namespace Go.Proofs.Ytcdademaamoboaa
open Go.ChangeShapes Go.WideShapes Go.ChangeAt Go.RowKit Go.Deep

theorem cell_plain {w : World} {a : Addr} {v : Value} (h : w.cell? a = some v) : a.spot = none ∧ a.block < w.heap.size := by
  unfold World.cell? at h
  split at h
  · rename_i c e f hh
    constructor
    · cases hs : a.spot with
      | none => rfl
      | some s => rw [hs] at h; simp at h
    · rcases Nat.lt_or_ge a.block w.heap.size with hlt | hge
      · exact hlt
      · rw [Array.getElem?_eq_none hge] at hh; cases hh
  · cases h

section
variable {H : Type} {enc : TypeId × Value → H} {P : Program}
theorem open_f32s {t e : TypeId} {W : World} {base : Nat} {v : Value} {d : DataW H} {p : List MemPlace} (ht : P.underlying t = some (.slice e)) (he : P.underlying e = some (.float .f32)) (hc : P.cellsOf e = 1)
    (hv : Value.okWide P W .any base t v) (h : DataW.Trod enc P W 0 (fun _ => true) true t v d p) :
    ∃ A c xs, v = .slice A xs.length c ∧ FRd W A xs ∧ xs.length ≤ maxLen := by
  obtain ⟨a0, len, cap, rfl⟩ := okWide_slice ht hv
  obtain ⟨fuel, hf⟩ := h
  rcases open_slice1 ht hc hf with ⟨hcs, _⟩ | ⟨a, len', cap', m, n, V, D, Pl, hcs, _, hl, hm, hmm, _, hi⟩
  · simp only [Value.cells, List.cons.injEq, Value.slice.injEq, and_true] at hcs
    obtain ⟨rfl, rfl, rfl⟩ := hcs
    exact ⟨none, 0, [], rfl, Rd.nil, Nat.zero_le _⟩
  · simp only [Value.cells, List.cons.injEq, Value.slice.injEq, and_true] at hcs
    obtain ⟨rfl, rfl, rfl⟩ := hcs
    simp only [if_true] at hmm
    subst hmm
    have hfl : ∀ i, i < len → ∃ b, V i = .float .f32 b := fun i hlt => by
      obtain ⟨_, ht'⟩ := hi i (by omega)
      cases n with
      | zero => simp [DataW.trod] at ht'
      | succ n =>
        simp only [DataW.trod, he] at ht'
        cases hV : V i with
        | float k b =>
          rw [hV] at ht'
          cases k
          · exact ⟨b, rfl⟩
          · simp at ht'
        | _ => rw [hV] at ht'; simp at ht'
    let g : Nat → Nat := fun i => match V i with | .float _ b => b | _ => 0
    have hg : ∀ i, i < len → V i = fv (g i) := fun i hlt => by
      obtain ⟨b, hb⟩ := hfl i hlt
      simp only [g, hb, fv]
    refine ⟨some a, m, (List.range len).map g, by simp, fun i u hu => ?_, by simp; omega⟩
    have hlt : i < len := by
      have := (List.getElem?_eq_some_iff.1 hu).1
      simpa using this
    have hu' : u = fv (g i) := by simpa [hlt] using hu.symm
    subst hu'
    obtain ⟨h0, _⟩ := hi 0 (by omega)
    obtain ⟨hcell, _⟩ := hi i (by omega)
    rw [Addr.add_zero'] at h0
    obtain ⟨hs, hb⟩ := cell_plain h0
    obtain ⟨b, o, s⟩ := a
    simp only at hs
    subst hs
    rw [Addr.add_lit] at hcell
    exact ⟨b, o, rfl, hb, by rw [hcell, hg i hlt]⟩
end
end Go.Proofs.Ytcdademaamoboaa
