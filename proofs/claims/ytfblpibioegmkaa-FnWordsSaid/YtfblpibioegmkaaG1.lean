/- A grammar and a rule that came in, opened; weighed; copied. -/
import Derived.Test.YtfblpibioegmkaaD
import Derived.Test.YtfblpibioegmkaaFrame
import Derived.Deep.SlicePairs
import Derived.Lib.SmallJoins
namespace Go.Proofs.Ytfblpibioegmkaa
open Go.ChangeShapes Go.WideShapes Go.ChangeAt Go.RowKit Go.Deep

theorem cell_plain {w : World} {a : Addr} {v : Value} (h : w.cell? a = some v) : a.spot = none ∧ a.block < w.heap.size := by
  unfold World.cell? at h
  split at h
  · rename_i c e f hh
    constructor
    · cases hs : a.spot with
      | none => rfl
      | some s => rw [hs] at h; simp at h
    · rcases Nat.lt_or_ge a.block w.heap.size with hlt | hge
      · exact hlt
      · rw [Array.getElem?_eq_none hge] at hh; cases hh
  · cases h

section
variable {H : Type} {enc : TypeId × Value → H} {P : Program}
theorem rules_of_trod {t e : TypeId} {f0 f1 : Field} {W : World} {fuel : Nat} {v : Value} {x : DataW H × List MemPlace} (ht : P.underlying t = some (.slice e)) (he : P.underlying e = some (.struct #[f0, f1])) (ce : P.cellsOf e = 2)
    (o0 : f0.offset = 0) (o1 : f1.offset = 1) (c0 : P.cellsOf f0.type = 1) (c1 : P.cellsOf f1.type = 1) (s0 : P.underlying f0.type = some .string) (s1 : P.underlying f1.type = some .string)
    (hf : DataW.trod enc P W 0 (fun _ => true) true fuel t [v] = some x) :
    ∃ A c rs, v = .slice A rs.length c ∧ RRd W A rs ∧ rs.length ≤ maxLen ∧ ∀ r ∈ rs, r.1.size ≤ maxLen ∧ r.2.size ≤ maxLen := by
  rcases open_slice_pairs ht he ce o0 o1 c0 c1 hf with ⟨hcs, _⟩ | ⟨a, len', cap', m, n, V0, V1, D0, D1, P0, P1, hcs, _, hl, hm, hmm, _, hi⟩
  · simp only [List.cons.injEq, and_true] at hcs
    subst hcs
    exact ⟨none, 0, [], rfl, fun i r h => by simp at h, Nat.zero_le _, fun r h => by simp at h⟩
  · simp only [List.cons.injEq, and_true] at hcs
    subst hcs
    simp only [if_true] at hmm
    subst hmm
    have hfl : ∀ i, i < len' → ∃ r : RuleV, V0 i = .string r.1 ∧ V1 i = .string r.2 ∧ r.1.size ≤ maxLen ∧ r.2.size ≤ maxLen := fun i hlt => by
      obtain ⟨_, _, t0, t1⟩ := hi i (by omega)
      obtain ⟨a1, b1, _, g1⟩ := DataW.trod_string s0 t0
      obtain ⟨a2, b2, _, g2⟩ := DataW.trod_string s1 t1
      simp only [List.cons.injEq, and_true] at b1 b2
      exact ⟨(a1, a2), b1, b2, g1, g2⟩
    obtain ⟨g, hg⟩ := choose_lt hfl
    refine ⟨some a, m, (List.range len').map g, by simp, fun i r hu => ?_, by simp; omega, fun r hr => ?_⟩
    · have hlt : i < len' := by
        have := (List.getElem?_eq_some_iff.1 hu).1
        simpa using this
      have hu' : r = g i := by simpa [hlt] using hu.symm
      subst hu'
      obtain ⟨h0, _⟩ := hi 0 (by omega)
      obtain ⟨hc0, hc1, _⟩ := hi i (by omega)
      rw [Nat.zero_mul, Addr.add_zero'] at h0
      obtain ⟨hs, hb⟩ := cell_plain h0
      obtain ⟨b, o, s⟩ := a
      simp only at hs
      subst hs
      rw [Addr.add_lit] at hc0 hc1
      exact ⟨b, o, rfl, hb, by rw [hc0, (hg i hlt).1], by rw [← Nat.add_assoc] at hc1; rw [hc1, (hg i hlt).2.1]⟩
    · obtain ⟨i, hi', rfl⟩ := List.mem_map.1 hr
      exact (hg i (List.mem_range.1 hi')).2.2
theorem open_grammar {t ti ts e : TypeId} {f0 f1 g0 g1 : Field} {W : World} {base : Nat} {v : Value} {d : DataW H} {p : List MemPlace} (hs : P.underlying t = some (.struct #[f0, f1])) (hone : oneCellFields P #[f0, f1] = true) (hC : P.cellsOf t = 2)
    (h0 : f0.type = ti) (h1 : f1.type = ts) (hi : P.underlying ti = some .string) (ht : P.underlying ts = some (.slice e)) (he : P.underlying e = some (.struct #[g0, g1])) (ce : P.cellsOf e = 2)
    (o0 : g0.offset = 0) (o1 : g1.offset = 1) (c0 : P.cellsOf g0.type = 1) (c1 : P.cellsOf g1.type = 1) (s0 : P.underlying g0.type = some .string) (s1 : P.underlying g1.type = some .string)
    (hv : Value.okWide P W .any base t v) (h : DataW.Trod enc P W 0 (fun _ => true) true t v d p) :
    ∃ s A c rs, v = .agg #[.string s, .slice A rs.length c] ∧ RRd W A rs ∧ rs.length ≤ maxLen ∧ s.size ≤ maxLen ∧ ∀ r ∈ rs, r.1.size ≤ maxLen ∧ r.2.size ≤ maxLen := by
  obtain ⟨v0, v1, y0, y1, n, rfl, _, _, t0, t1⟩ := Go.Joins.open_agg2 hs hone hC hv h
  rw [h0] at t0
  rw [h1] at t1
  obtain ⟨a, e0, _, w0⟩ := DataW.trod_string hi t0
  simp only [List.cons.injEq, and_true] at e0
  subst e0
  obtain ⟨A, c, rs, rfl, hA, hn, hz⟩ := rules_of_trod ht he ce o0 o1 c0 c1 s0 s1 t1
  exact ⟨a, A, c, rs, rfl, hA, hn, w0, hz⟩
theorem open_rule {t ti : TypeId} {f0 f1 : Field} {W : World} {base : Nat} {v : Value} {d : DataW H} {p : List MemPlace} (hs : P.underlying t = some (.struct #[f0, f1])) (hone : oneCellFields P #[f0, f1] = true) (hC : P.cellsOf t = 2)
    (h0 : f0.type = ti) (h1 : f1.type = ti) (hi : P.underlying ti = some .string)
    (hv : Value.okWide P W .any base t v) (h : DataW.Trod enc P W 0 (fun _ => true) true t v d p) :
    ∃ a b, v = .agg #[.string a, .string b] ∧ a.size ≤ maxLen ∧ b.size ≤ maxLen := by
  obtain ⟨v0, v1, y0, y1, n, rfl, _, _, t0, t1⟩ := Go.Joins.open_agg2 hs hone hC hv h
  rw [h0] at t0
  rw [h1] at t1
  obtain ⟨a, e0, _, w0⟩ := DataW.trod_string hi t0
  obtain ⟨b, e1, _, w1⟩ := DataW.trod_string hi t1
  simp only [List.cons.injEq, and_true] at e0 e1
  subst e0; subst e1
  exact ⟨a, b, rfl, w0, w1⟩
end

/-- What a rule, rules, a grammar weigh. -/
def rwt (r : RuleV) : Nat := r.1.size + r.2.size
def rsw (rs : List RuleV) : Nat := (rs.map rwt).sum
def gwt (s : ByteArray) (rs : List RuleV) : Nat := s.size + rs.length + rsw rs
theorem rsw_snoc {rs : List RuleV} {k : Nat} (h : k < rs.length) : rsw (rs.take (k + 1)) = rsw (rs.take k) + rwt rs[k] := by
  unfold rsw
  rw [List.take_succ_eq_append_getElem h, List.map_append, List.sum_append]
  simp only [List.map_cons, List.map_nil, List.sum_cons, List.sum_nil, Nat.add_zero]
/-- What is left, or less than nothing. -/
def Left (w : World) (n : Int) (e : Ending) (w' : World) : Prop := ∃ l : Int, e = .returned (.int .i64 l) ∧ (0 ≤ l → l = n) ∧ Below w.heap.size w w'
theorem szRule_any (r : RuleV) (left : Int) (w : World) (h0 : 0 ≤ left) (h1 : left ≤ 1048576) (z0 : r.1.size ≤ maxLen) (z1 : r.2.size ≤ maxLen) :
    Calls Try.prog 43 #[.agg #[.string r.1, .string r.2], .int .i64 left] w (Left w (left - rwt r)) := by
  unfold maxLen at z0 z1
  go_enter Try.func43, Try.ntmps43
  by_cases g0 : (r.1.size : Int) ≤ left
  · by_cases g1 : (r.1.size : Int) + r.2.size ≤ left
    · have t0 : IntKind.i64.wrap (left - r.1.size) = left - r.1.size := IntWalk.i64_in _ (by omega)
      have t1 : IntKind.i64.wrap (left - r.1.size - r.2.size) = left - r.1.size - r.2.size := IntWalk.i64_in _ (by omega)
      have q0 : ¬ left - r.1.size < 0 := by omega
      have q1 : ¬ left - r.1.size - r.2.size < 0 := by omega
      go_wp2
      go_ret
      exact ⟨_, rfl, fun _ => by unfold rwt; omega, by go_grown⟩
    · have t0 : IntKind.i64.wrap (left - r.1.size) = left - r.1.size := IntWalk.i64_in _ (by omega)
      have t1 : IntKind.i64.wrap (left - r.1.size - r.2.size) = left - r.1.size - r.2.size := IntWalk.i64_in _ (by omega)
      have q0 : ¬ left - r.1.size < 0 := by omega
      have q1 : left - r.1.size - r.2.size < 0 := by omega
      go_wp2
      go_ret
      exact ⟨_, rfl, fun h => by omega, by go_grown⟩
  · have t0 : IntKind.i64.wrap (left - r.1.size) = left - r.1.size := IntWalk.i64_in _ (by omega)
    have q0 : left - r.1.size < 0 := by omega
    go_wp2
    go_ret
    exact ⟨_, rfl, fun h => by omega, by go_grown⟩
set_option maxRecDepth 100000 in
theorem szRuleS_any (A : Option Addr) (c : Nat) (rs : List RuleV) (left : Int) (w : World) (hA : RRd w A rs) (hn : rs.length ≤ maxLen) (h0 : 0 ≤ left) (h1 : left ≤ 1048576) (hz : ∀ r ∈ rs, r.1.size ≤ maxLen ∧ r.2.size ≤ maxLen) :
    Calls Try.prog 57 #[.slice A rs.length c, .int .i64 left] w (Left w (left - rs.length - rsw rs)) := by
  unfold maxLen at hn
  have t0 : IntKind.i64.wrap (left - rs.length) = left - rs.length := IntWalk.i64_in _ (by omega)
  by_cases g0 : (rs.length : Int) ≤ left
  · have q0 : ¬ left - rs.length < 0 := by omega
    go_enter Try.func57, Try.ntmps57
    go_wp2_with fail
    go_loopw [1, 5] (fun lv iv wr => ∃ (k : Nat) (l : Int), k ≤ rs.length ∧ iv = .int .i64 k ∧ lv = .int .i64 l ∧ 0 ≤ l ∧ l ≤ 1048576 ∧ Hid (l = left - rs.length - rsw (rs.take k)) ∧ Below w.heap.size w wr) (fun _ iv _ => rs.length - (intOf iv).toNat)
    case atStart => exact ⟨0, _, Nat.zero_le _, rfl, rfl, by omega, by omega, Lib.hid (by simp [rsw]), Below.refl _ _⟩
    case round =>
      obtain ⟨k, l, hk, rfl, rfl, l0, l1, HL, hbel⟩ := hrel
      clear q0 g0 t0
      by_cases hlt : k < rs.length
      · obtain ⟨b, o, rfl, hb, d0, d1⟩ := hA k rs[k] (by simp [hlt])
        have e0 := (hbel.cell hb).trans d0
        have e1 := (hbel.cell hb).trans d1
        obtain ⟨y0, y1⟩ := hz rs[k] (List.getElem_mem hlt)
        have hs := Lib.hid (rsw_snoc hlt)
        generalize hr : rs[k] = r at e0 e1 y0 y1 hs
        clear d0 d1 hr
        go_wp2_with fail
        refine (szRule_any r l _ l0 l1 y0 y1).mono ?_
        rintro e w1 ⟨l', rfl, hl', k1⟩
        have K := Below.step hbel k1
        clear k1 hbel
        by_cases hneg : l' < 0
        · go_wp2
          go_ret
          exact ⟨_, rfl, fun h => by omega, K⟩
        · have he : Hid (l' = left - rs.length - rsw (rs.take (k + 1))) := Lib.hid (by have := HL.out; have := hs.out; have := hl' (by omega); omega)
          have hle : l' ≤ l := by have := hl' (by omega); omega
          clear hl'
          go_wp2
          go_roundw
          case rel => exact ⟨k + 1, _, by omega, by go_num, rfl, by omega, by omega, he, K⟩
          case measure => simp [intOf]; omega
      · obtain rfl : k = rs.length := by omega
        go_wp2
        go_ret
        exact ⟨_, rfl, fun _ => by have := HL.out; rw [List.take_length] at this; exact this, hbel⟩
  · have q0 : left - rs.length < 0 := by omega
    go_enter Try.func57, Try.ntmps57
    go_wp2
    go_ret
    exact ⟨_, rfl, fun h => by omega, by go_grown⟩
set_option maxRecDepth 100000 in
theorem szGrammar_any (s : ByteArray) (A : Option Addr) (c : Nat) (rs : List RuleV) (left : Int) (w : World) (hA : RRd w A rs) (hn : rs.length ≤ maxLen) (h0 : 0 ≤ left) (h1 : left ≤ 1048576) (hs : s.size ≤ maxLen) (hz : ∀ r ∈ rs, r.1.size ≤ maxLen ∧ r.2.size ≤ maxLen) :
    Calls Try.prog 26 #[.agg #[.string s, .slice A rs.length c], .int .i64 left] w (Left w (left - gwt s rs)) := by
  have hs' := hs
  unfold maxLen at hs'
  have t0 : IntKind.i64.wrap (left - s.size) = left - s.size := IntWalk.i64_in _ (by omega)
  by_cases g0 : (s.size : Int) ≤ left
  · have q0 : ¬ left - s.size < 0 := by omega
    go_enter Try.func26, Try.ntmps26
    go_wp2_with fail
    refine (szRuleS_any A c rs _ _ (hA.below (below_alloc _ _)) hn (by omega) (by omega) hz).mono ?_
    rintro e w1 ⟨l', rfl, hl', k1⟩
    have K := Below.step (below_alloc _ _) k1
    clear k1
    by_cases hneg : l' < 0
    · go_wp2
      go_ret
      exact ⟨_, rfl, fun h => by omega, K⟩
    · have hl2 := Lib.hid (hl' (by omega))
      clear hl'
      go_wp2
      go_ret
      exact ⟨_, rfl, fun _ => by have := hl2.out; unfold gwt; omega, K⟩
  · have q0 : left - s.size < 0 := by omega
    go_enter Try.func26, Try.ntmps26
    go_wp2
    go_ret
    exact ⟨_, rfl, fun h => by omega, by go_grown⟩
theorem toRule_any (r : RuleV) (w : World) : Calls Try.prog 45 #[.agg #[.string r.1, .string r.2]] w fun e w' => e = .returned (.agg #[.string r.1, .string r.2]) ∧ Below w.heap.size w w' := by
  go_enter Try.func45, Try.ntmps45
  go_wp2
  refine bodyPost_ret (v := .agg #[.string r.1, .string r.2]) (by simp [results, Try.results45, go_sem]) rfl ?_
  exact ⟨rfl, Below.step (Below.step (below_alloc _ _) (below_alloc _ _)) (below_alloc _ _)⟩
theorem info.rule : (Try.prog.info? 55).map (fun i => (i.zero, i.size, i.bytes)) = some (some (.agg #[.string ⟨#[]⟩, .string ⟨#[]⟩]), 2, 32) := by kernel_rfl
theorem info_parts {o : Option TypeInfo} {z : Option Value} {s b : Nat} (h : o.map (fun i => (i.zero, i.size, i.bytes)) = some (z, s, b)) : ∃ i, o = some i ∧ i.zero = z ∧ i.size = s ∧ i.bytes = b := by
  cases o with
  | none => cases h
  | some i => simp at h; exact ⟨i, rfl, h.1, h.2.1, h.2.2⟩
theorem wr_own2 {w : World} {base n c g : Nat} {e : TypeId} {xs : List Value} (h : w.ownsRow base e 2 (.slice (some ⟨g, 0, none⟩) n c) n xs) : Wr w g 0 (2 * n) := fun j hj => by
  have hl := h.1
  have hc := h.cells (g := g) rfl j xs[j] (List.getElem?_eq_getElem (by omega))
  rw [Addr.add_lit] at hc
  refine ⟨⟨_, hc⟩, ?_⟩
  rcases h.2 with ⟨_, hn⟩ | ⟨g', cap, cur, hv, hg, hh, hrest⟩
  · omega
  · injection hv with hA'
    injection hA' with hA'
    injection hA' with h1 h2
    subst h1
    unfold World.frozen?
    rw [hh]
    simp
theorem put_step {w : World} {g n k : Nat} {r : RuleV} {rs : List RuleV} (hg : g < w.heap.size) (hj : rs.length = k) (hk : k < n) (hw : Wr w g 0 (2 * n)) (hr : RRd w (some ⟨g, 0, none⟩) rs) :
    Wr ((w.setCell ⟨g, k * 2, none⟩ (.string r.1)).setCell ⟨g, k * 2 + 1, none⟩ (.string r.2)) g 0 (2 * n) ∧ RRd ((w.setCell ⟨g, k * 2, none⟩ (.string r.1)).setCell ⟨g, k * 2 + 1, none⟩ (.string r.2)) (some ⟨g, 0, none⟩) (rs ++ [r]) := by
  have W1 := hw.set ⟨g, k * 2, none⟩ (.string r.1)
  refine ⟨W1.set _ _, fun i u hi => ⟨g, 0, rfl, by simpa [World.setCell] using hg, ?_⟩⟩
  rw [Nat.zero_add]
  by_cases e : i = k
  · subst e
    have hu : r = u := by
      rw [List.getElem?_append_right (by omega), hj, Nat.sub_self] at hi
      simpa using hi
    subst hu
    constructor
    · rw [World.cell?_setCell_other _ _ _ _ (by simp <;> omega)]
      obtain ⟨⟨v, hv⟩, _⟩ := hw (i * 2) (by omega)
      rw [Nat.zero_add] at hv
      exact World.cell?_setCell_same _ _ _ hv
    · obtain ⟨⟨v, hv⟩, _⟩ := W1 (i * 2 + 1) (by omega)
      rw [Nat.zero_add] at hv
      exact World.cell?_setCell_same _ _ _ hv
  · have hlt : i < rs.length := by
      have := (List.getElem?_eq_some_iff.1 hi).1
      simp at this
      omega
    rw [List.getElem?_append_left hlt] at hi
    obtain ⟨b', o', hA, _, g0, g1⟩ := hr i _ hi
    injection hA with hA
    injection hA with hA1 hA2
    subst hA1; subst hA2
    rw [Nat.zero_add] at g0 g1
    constructor
    · rw [World.cell?_setCell_other _ _ _ _ (by simp <;> omega), World.cell?_setCell_other _ _ _ _ (by simp <;> omega)]
      exact g0
    · rw [World.cell?_setCell_other _ _ _ _ (by simp <;> omega), World.cell?_setCell_other _ _ _ _ (by simp <;> omega)]
      exact g1
theorem cells_below {W w1 : World} (hb : Below W.heap.size W w1) : (∀ b o, b < W.heap.size → w1.cell? ⟨b, o, none⟩ = W.cell? ⟨b, o, none⟩) ∧ (∀ b o, b < W.heap.size → w1.frozen? ⟨b, o, none⟩ = W.frozen? ⟨b, o, none⟩) :=
  ⟨fun b o h => hb.cell (p := ⟨b, o, none⟩) h, fun b o h => hb.frozen (p := ⟨b, o, none⟩) h⟩
/-- Rules in new memory. -/
def NewR (w : World) (rs : List RuleV) (e : Ending) (w' : World) : Prop :=
  ∃ g c, e = .returned (.slice (some ⟨g, 0, none⟩) rs.length c) ∧ w.heap.size ≤ g ∧ g < w'.heap.size ∧ RRd w' (some ⟨g, 0, none⟩) rs ∧ Wr w' g 0 (2 * rs.length) ∧ Below w.heap.size w w'
set_option maxRecDepth 100000 in
theorem toRuleS_any (A : Option Addr) (c : Nat) (rs : List RuleV) (w : World) (hA : RRd w A rs) (hn : rs.length ≤ 1048576) : Calls Try.prog 59 #[.slice A rs.length c] w (NewR w rs) := by
  obtain ⟨i0, hi, hz0, hz1, hz2⟩ := info_parts info.rule
  go_enter Try.func59, Try.ntmps59
  go_wp2_with (first | (at_make; refine wpList_make_full _ rfl _ _ 23 rfl w.heap.size 55 i0 (.agg #[.string ⟨#[]⟩, .string ⟨#[]⟩]) 2 Try.underlying23 hi hz0 hz1 _ _ _ _ rs.length rfl rfl rfl rfl (by rw [hz2]; omega) (by unfold maxLen; omega) (Nat.le_refl _) ?_))
  intro w1 hown hgrow
  have hb1 : Below w.heap.size w w1 := (Below.refl _ _).grown hgrow (Nat.le_refl _) (fun k h => by cases h)
  have hw1 := wr_own2 hown
  have hg1 : w.heap.size < w1.heap.size := (hown.lt w.heap.size rfl).2
  clear hown hgrow hi hz0 hz1 hz2
  go_wp2_with fail
  go_loopw [4] (fun i wr => ∃ k : Nat, k ≤ rs.length ∧ i = .int .i64 k ∧ Below w.heap.size w wr ∧ w.heap.size < wr.heap.size ∧ Wr wr w.heap.size 0 (2 * rs.length) ∧ RRd wr (some ⟨w.heap.size, 0, none⟩) (rs.take k)) (fun i _ => rs.length - (intOf i).toNat)
  case atStart => exact ⟨0, Nat.zero_le _, rfl, hb1, hg1, hw1, fun i u h => by simp at h⟩
  case round =>
    clear hb1 hg1 hw1
    obtain ⟨k, hk, rfl, hbel, hsz, hwr, hr⟩ := hrel
    by_cases hlt : k < rs.length
    · obtain ⟨b, o, rfl, hb, d0, d1⟩ := hA k rs[k] (by simp [hlt])
      have e0 := (hbel.cell hb).trans d0
      have e1 := (hbel.cell hb).trans d1
      have ht := Lib.hid (List.take_succ_eq_append_getElem hlt)
      generalize rs[k] = r at e0 e1 ht
      clear d0 d1
      go_wp2_with fail
      refine (toRule_any r _).mono ?_
      rintro e w2 ⟨rfl, k1⟩
      have hw2 := hwr.keep (S := fun _ => False) (Keep.of_below k1) hsz id
      have hr2 := hr.below k1
      have hs2 : w.heap.size < w2.heap.size := Nat.lt_of_lt_of_le hsz k1.size
      have K := hbel.trans (k1.mono hbel.size)
      obtain ⟨s1, s2⟩ := put_step (r := r) hs2 (by simp; omega : (rs.take k).length = k) hlt hw2 hr2
      have S1 := Lib.hid (And.intro s1 s2)
      obtain ⟨⟨v0, hv0⟩, hf0⟩ := hw2 (k * 2) (by omega)
      obtain ⟨⟨v1, hv1⟩, hf1⟩ := hw2 (k * 2 + 1) (by omega)
      rw [Nat.zero_add] at hv0 hf0 hv1 hf1
      have hv1' : (w2.setCell ⟨w.heap.size, k * 2, none⟩ (.string r.1)).cell? ⟨w.heap.size, k * 2 + 1, none⟩ = some v1 := (World.cell?_setCell_other _ _ _ _ (by simp)).trans hv1
      clear k1 hwr hr hbel hsz e0 e1 s1 s2 hw2 hr2 hv1
      go_wp2
      go_roundw
      case rel => exact ⟨k + 1, by omega, by go_num, (K.setCell (Nat.le_refl _) _).setCell (Nat.le_refl _) _, by simpa [World.setCell] using hs2, S1.out.1, by rw [ht.out]; exact S1.out.2⟩
      case measure => simp [intOf]; omega
    · obtain rfl : k = rs.length := by omega
      rw [List.take_length] at hr
      go_wp2
      go_ret
      exact ⟨_, _, rfl, Nat.le_refl _, hsz, hr, hwr, hbel⟩
set_option maxRecDepth 100000 in
theorem toGrammar_any (s : ByteArray) (A : Option Addr) (c : Nat) (rs : List RuleV) (w : World) (hA : RRd w A rs) (hn : rs.length ≤ 1048576) : Calls Try.prog 28 #[.agg #[.string s, .slice A rs.length c]] w (NewG w s rs) := by
  go_enter Try.func28, Try.ntmps28
  go_wp2_with fail
  refine (toRuleS_any A c rs _ (((hA.below (below_alloc _ _)).below (below_alloc _ _)).below (below_alloc _ _)) hn).mono ?_
  rintro e w1 ⟨g, c1, rfl, hg1, hg2, hr, hw, k1⟩
  obtain ⟨hc, hf⟩ := cells_below k1
  have hz := k1.size
  simp only [World.size_alloc] at hz hg1
  have K1 := Below.step (Below.step (Below.step (below_alloc w _) (below_alloc _ _)) (below_alloc _ _)) k1
  have hz1 : w.heap.size + 1 < w1.heap.size := by omega
  have hz2 : w.heap.size + 2 < w1.heap.size := by omega
  have O1 := Lib.hid (And.intro hr hw)
  have KK := Lib.hid K1
  clear k1 hr hw K1
  go_wp2
  refine bodyPost_ret (v := .agg #[.string s, .slice (some ⟨g, 0, none⟩) rs.length c1]) (by simp [results, Try.results28, go_sem, hc]) rfl ?_
  have kp : Keep (fun k => k < w.heap.size + 3) w1 (((w1.setCell ⟨w.heap.size + 1 + 1, 1, none⟩ (.slice (some ⟨g, 0, none⟩) rs.length c1)).setCell ⟨w.heap.size + 1, 0, none⟩ (.string s)).setCell ⟨w.heap.size + 1, 1, none⟩ (.slice (some ⟨g, 0, none⟩) rs.length c1)) :=
    (((Keep.refl _ w1).setCell (.inl (by show _ < _; simp only []; omega)) _).setCell (.inl (by show _ < _; simp only []; omega)) _).setCell (.inl (by show _ < _; simp only []; omega)) _
  refine ⟨g, c1, rfl, by omega, Nat.lt_of_lt_of_le hg2 kp.size, O1.out.1.keep kp (fun b o h => by injection h with h; injection h with h; omega), O1.out.2.keep kp hg2 (by omega), ?_⟩
  exact ((KK.out.setCell (by simp only []; omega) _).setCell (by simp only []; omega) _).setCell (by simp only []; omega) _
end Go.Proofs.Ytfblpibioegmkaa
