/- A slice of float32 that came in, opened. -/
import Derived.Test.YtamgekijihpgkaaF32
import Derived.Test.YtamgekijihpgkaaFrame
import Derived.Deep.Slices
import Derived.Lib.SmallJoins
namespace Go.Proofs.Ytamgekijihpgkaa
open Go.ChangeShapes Go.WideShapes Go.ChangeAt Go.RowKit Go.Deep

theorem cell_plain {w : World} {a : Addr} {v : Value} (h : w.cell? a = some v) : a.spot = none ∧ a.block < w.heap.size := by
  unfold World.cell? at h
  split at h
  · rename_i c e f hh
    constructor
    · cases hs : a.spot with
      | none => rfl
      | some s => rw [hs] at h; simp at h
    · rcases Nat.lt_or_ge a.block w.heap.size with hlt | hge
      · exact hlt
      · rw [Array.getElem?_eq_none hge] at hh; cases hh
  · cases h

section
variable {H : Type} {enc : TypeId × Value → H} {P : Program}
theorem f32s_of_trod {t e : TypeId} {W : World} {fuel : Nat} {v : Value} {x : DataW H × List MemPlace} (ht : P.underlying t = some (.slice e)) (he : P.underlying e = some (.float .f32)) (hc : P.cellsOf e = 1)
    (hf : DataW.trod enc P W 0 (fun _ => true) true fuel t [v] = some x) :
    ∃ A c xs, v = .slice A xs.length c ∧ FRd W A xs ∧ xs.length ≤ maxLen := by
  rcases open_slice1 ht hc hf with ⟨hcs, _⟩ | ⟨a, len', cap', m, n, V, D, Pl, hcs, _, hl, hm, hmm, _, hi⟩
  · simp only [List.cons.injEq, and_true] at hcs
    subst hcs
    exact ⟨none, 0, [], rfl, Rd.nil, Nat.zero_le _⟩
  · simp only [List.cons.injEq, and_true] at hcs
    subst hcs
    simp only [if_true] at hmm
    subst hmm
    have hfl : ∀ i, i < len' → ∃ b, V i = .float .f32 b := fun i hlt => by
      obtain ⟨_, ht'⟩ := hi i (by omega)
      cases n with
      | zero => simp [DataW.trod] at ht'
      | succ n =>
        simp only [DataW.trod, he] at ht'
        cases hV : V i with
        | float k b =>
          rw [hV] at ht'
          cases k
          · exact ⟨b, rfl⟩
          · simp at ht'
        | _ => rw [hV] at ht'; simp at ht'
    let g : Nat → Nat := fun i => match V i with | .float _ b => b | _ => 0
    have hg : ∀ i, i < len' → V i = fv (g i) := fun i hlt => by
      obtain ⟨b, hb⟩ := hfl i hlt
      simp only [g, hb, fv]
    refine ⟨some a, m, (List.range len').map g, by simp, fun i u hu => ?_, by simp; omega⟩
    have hlt : i < len' := by
      have := (List.getElem?_eq_some_iff.1 hu).1
      simpa using this
    have hu' : u = fv (g i) := by simpa [hlt] using hu.symm
    subst hu'
    obtain ⟨h0, _⟩ := hi 0 (by omega)
    obtain ⟨hcell, _⟩ := hi i (by omega)
    rw [Addr.add_zero'] at h0
    obtain ⟨hs, hb⟩ := cell_plain h0
    obtain ⟨b, o, s⟩ := a
    simp only at hs
    subst hs
    rw [Addr.add_lit] at hcell
    exact ⟨b, o, rfl, hb, by rw [hcell, hg i hlt]⟩
theorem open_f32s {t e : TypeId} {W : World} {base : Nat} {v : Value} {d : DataW H} {p : List MemPlace} (ht : P.underlying t = some (.slice e)) (he : P.underlying e = some (.float .f32)) (hc : P.cellsOf e = 1)
    (hv : Value.okWide P W .any base t v) (h : DataW.Trod enc P W 0 (fun _ => true) true t v d p) :
    ∃ A c xs, v = .slice A xs.length c ∧ FRd W A xs ∧ xs.length ≤ maxLen := by
  obtain ⟨a0, len, cap, rfl⟩ := okWide_slice ht hv
  obtain ⟨fuel, hf⟩ := h
  exact f32s_of_trod ht he hc hf
theorem open_sheet {t ti ts e : TypeId} {f0 f1 f2 : Field} {W : World} {base : Nat} {v : Value} {d : DataW H} {p : List MemPlace} (hs : P.underlying t = some (.struct #[f0, f1, f2])) (hone : oneCellFields P #[f0, f1, f2] = true) (hC : P.cellsOf t = 3)
    (h0 : f0.type = ti) (h1 : f1.type = ti) (h2 : f2.type = ts) (hi : P.underlying ti = some (.int .i64)) (ht : P.underlying ts = some (.slice e)) (he : P.underlying e = some (.float .f32)) (hc : P.cellsOf e = 1)
    (hv : Value.okWide P W .any base t v) (h : DataW.Trod enc P W 0 (fun _ => true) true t v d p) :
    ∃ sw sh A c xs, v = .agg #[.int .i64 sw, .int .i64 sh, .slice A xs.length c] ∧ FRd W A xs ∧ xs.length ≤ maxLen ∧ (Lit.int .i64 sw).wf = true ∧ (Lit.int .i64 sh).wf = true := by
  obtain ⟨v0, v1, v2, y0, y1, y2, n, rfl, _, _, t0, t1, t2⟩ := Go.Joins.open_agg3 hs hone hC hv h
  rw [h0] at t0
  rw [h1] at t1
  rw [h2] at t2
  obtain ⟨a, e0, _, w0⟩ := DataW.trod_int hi t0
  obtain ⟨b, e1, _, w1⟩ := DataW.trod_int hi t1
  simp only [List.cons.injEq, and_true] at e0 e1
  subst e0; subst e1
  obtain ⟨A, c, xs, rfl, hA, hn⟩ := f32s_of_trod ht he hc t2
  exact ⟨a, b, A, c, xs, rfl, hA, hn, w0, w1⟩
end
end Go.Proofs.Ytamgekijihpgkaa
