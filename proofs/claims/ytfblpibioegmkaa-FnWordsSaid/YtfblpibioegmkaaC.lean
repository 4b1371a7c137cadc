/- Marks written into rules, held, and grammars compared. -/
import Derived.Test.YtfblpibioegmkaaB
namespace Go.Proofs.Ytfblpibioegmkaa
open Go.RowKit

def mt (k : Nat) : ByteArray := ⟨#[109]⟩ ++ dg k ⟨#[]⟩
def marks (k n : Nat) : List RuleV := (List.range n).map fun i => (mt (k + 2 * i), mt (k + 2 * i + 1))
theorem marks_at {k n i : Nat} (h : i < n) : (marks k n)[i]? = some (mt (k + 2 * i), mt (k + 2 * i + 1)) := by simp [marks, h]
theorem marks_lt {k n i : Nat} {r : RuleV} (h : (marks k n)[i]? = some r) : i < n := by
  have := (List.getElem?_eq_some_iff.1 h).1
  simpa [marks] using this

/-- The n cells from ⟨b, o⟩ are there and may be written. -/
def Wr (w : World) (b o n : Nat) : Prop := ∀ j, j < n → (∃ v, w.cell? ⟨b, o + j, none⟩ = some v) ∧ w.frozen? ⟨b, o + j, none⟩ = false
theorem Wr.keep {S : Nat → Prop} {w w' : World} {b o n : Nat} (h : Wr w b o n) (k : Keep S w w') (hb : b < w.heap.size) (hs : ¬ S b) : Wr w' b o n := fun j hj => by
  obtain ⟨⟨v, hv⟩, hf⟩ := h j hj
  exact ⟨⟨v, (World.cell?_of_block (w := w) (k.block b hb hs)).trans hv⟩, (World.frozen?_of_block (w := w) (k.block b hb hs)).trans hf⟩
theorem Wr.set {w : World} {b o n : Nat} (h : Wr w b o n) (p : Addr) (u : Value) : Wr (w.setCell p u) b o n := fun j hj => by
  obtain ⟨⟨v, hv⟩, hf⟩ := h j hj
  refine ⟨?_, by simpa using hf⟩
  by_cases e : p = ⟨b, o + j, none⟩
  · subst e; exact ⟨u, World.cell?_setCell_same _ _ _ hv⟩
  · exact ⟨v, (World.cell?_setCell_other _ _ _ _ e).trans hv⟩

theorem RRd.keep {S : Nat → Prop} {w w' : World} {A : Option Addr} {rs : List RuleV} (h : RRd w A rs) (k : Keep S w w') (hA : ∀ b o, A = some ⟨b, o, none⟩ → ¬ S b) : RRd w' A rs := fun i r hi => by
  obtain ⟨b, o, e, hb, h1, h2⟩ := h i r hi
  exact ⟨b, o, e, Nat.lt_of_lt_of_le hb k.size, (World.cell?_of_block (w := w) (k.block b hb (hA b o e))).trans h1, (World.cell?_of_block (w := w) (k.block b hb (hA b o e))).trans h2⟩
theorem RRd.below {w w' : World} {A : Option Addr} {rs : List RuleV} (h : RRd w A rs) (k : Below w.heap.size w w') : RRd w' A rs := h.keep (Keep.of_below (S := fun _ => False) k) (fun _ _ _ => id)
theorem below_alloc (w : World) (o : Obj) : Below w.heap.size w (w.alloc o) := (Below.refl _ _).alloc (Nat.le_refl _) o
theorem size_alloc_lt (w : World) (o : Obj) : w.heap.size ≤ (w.alloc o).heap.size := (below_alloc w o).size

theorem markText_mt (k : Nat) (h0 : 0 < k) (h1 : k < 4611686018427387904) (w : World) :
    Calls Try.prog 83 #[.int .i64 k] w fun e w' => e = .returned (.string (mt k)) ∧ Below w.heap.size w w' := markText_pos k h0 h1 w

theorem markText_at (q : Int) (k : Nat) (hq : q = k) (h0 : 0 < k) (h1 : k < 4611686018427387904) (w : World) :
    Calls Try.prog 83 #[.int .i64 q] w fun e w' => e = .returned (.string (mt k)) ∧ Below w.heap.size w w' := by subst hq; exact markText_pos k h0 h1 w

theorem mark_step {w wr w1 w2 : World} {b o n k j : Nat} (hb : b < w.heap.size) (hj : j < n) (hk : Keep (· = b) w wr) (hw : Wr wr b o (2 * n)) (hr : RRd wr (some ⟨b, o, none⟩) (marks k j)) (hb1 : Below wr.heap.size wr w1)
    (hb2 : Below (w1.setCell ⟨b, o + j * 2, none⟩ (.string (mt (k + 2 * j)))).heap.size (w1.setCell ⟨b, o + j * 2, none⟩ (.string (mt (k + 2 * j)))) w2) :
    Keep (· = b) w (w2.setCell ⟨b, o + j * 2 + 1, none⟩ (.string (mt (k + 2 * j + 1)))) ∧ Wr (w2.setCell ⟨b, o + j * 2 + 1, none⟩ (.string (mt (k + 2 * j + 1)))) b o (2 * n) ∧
      RRd (w2.setCell ⟨b, o + j * 2 + 1, none⟩ (.string (mt (k + 2 * j + 1)))) (some ⟨b, o, none⟩) (marks k (j + 1)) := by
  have hbr : b < wr.heap.size := Nat.lt_of_lt_of_le hb hk.size
  have hb1' : b < w1.heap.size := Nat.lt_of_lt_of_le hbr hb1.size
  have hbs : b < (w1.setCell ⟨b, o + j * 2, none⟩ (.string (mt (k + 2 * j)))).heap.size := by simpa [World.setCell] using hb1'
  have hb2' : b < w2.heap.size := Nat.lt_of_lt_of_le hbs hb2.size
  have W1 := hw.keep (S := fun _ => False) (Keep.of_below hb1) hbr id
  have W2 := (W1.set ⟨b, o + j * 2, none⟩ (.string (mt (k + 2 * j)))).keep (S := fun _ => False) (Keep.of_below hb2) hbs id
  have W3 := W2.set ⟨b, o + j * 2 + 1, none⟩ (.string (mt (k + 2 * j + 1)))
  refine ⟨((hk.trans (Keep.of_below hb1)).setCell (p := ⟨b, o + j * 2, none⟩) (.inl rfl) _ |>.trans (Keep.of_below hb2)).setCell (p := ⟨b, o + j * 2 + 1, none⟩) (.inl rfl) _, W3, fun i r h => ?_⟩
  have hi := marks_lt h
  rw [marks_at hi] at h
  obtain rfl := Option.some.inj h
  refine ⟨b, o, rfl, by simpa [World.setCell] using hb2', ?_⟩
  by_cases e : i = j
  · subst e
    constructor
    · rw [World.cell?_setCell_other _ _ _ _ (by simp <;> omega), hb2.cell (p := ⟨b, o + i * 2, none⟩) hbs]
      obtain ⟨⟨v, hv⟩, _⟩ := W1 (i * 2) (by omega)
      exact World.cell?_setCell_same _ _ _ hv
    · obtain ⟨⟨v, hv⟩, _⟩ := W2 (i * 2 + 1) (by omega)
      exact World.cell?_setCell_same _ _ _ (by rw [Nat.add_assoc]; exact hv)
  · obtain ⟨b', o', hA, _, g0, g1⟩ := hr i _ (marks_at (by omega))
    injection hA with hA
    injection hA with hA1 hA2
    subst hA1; subst hA2
    constructor
    · rw [World.cell?_setCell_other _ _ _ _ (by simp <;> omega), hb2.cell (p := ⟨b, o + i * 2, none⟩) hbs, World.cell?_setCell_other _ _ _ _ (by simp <;> omega), hb1.cell (p := ⟨b, o + i * 2, none⟩) hbr]
      exact g0
    · rw [World.cell?_setCell_other _ _ _ _ (by simp <;> omega), hb2.cell (p := ⟨b, o + i * 2 + 1, none⟩) hbs, World.cell?_setCell_other _ _ _ _ (by simp <;> omega), hb1.cell (p := ⟨b, o + i * 2 + 1, none⟩) hbr]
      exact g1

set_option maxRecDepth 10000 in
theorem markRuleS_any (b o n c k : Nat) (w : World) (hb : b < w.heap.size) (hw : Wr w b o (2 * n)) (h0 : 0 < k) (h1 : k ≤ 4611686018427387904 / 4) (hn : n ≤ 4611686018427387904 / 4) :
    Calls Try.prog 55 #[.slice (some ⟨b, o, none⟩) n c, .int .i64 k] w fun e w' => e = .returned (.int .i64 (k + 2 * n : Nat)) ∧ Keep (· = b) w w' ∧ RRd w' (some ⟨b, o, none⟩) (marks k n) := by
  go_enter Try.func55, Try.ntmps55
  go_wp2
  go_loopw [1, 5] (fun q i wr => ∃ j : Nat, j ≤ n ∧ i = .int .i64 j ∧ q = .int .i64 (k + 2 * j : Nat) ∧ Keep (· = b) w wr ∧ Wr wr b o (2 * n) ∧ RRd wr (some ⟨b, o, none⟩) (marks k j)) (fun _ i _ => n - (intOf i).toNat)
  case atStart => exact ⟨0, Nat.zero_le _, rfl, rfl, Keep.refl _ _, hw, fun i r h => by simp [marks] at h⟩
  case round =>
    obtain ⟨j, hj, rfl, rfl, hk, hwr, hr⟩ := hrel
    by_cases hlt : j < n
    · obtain ⟨⟨v0, hv0⟩, hf0⟩ := hwr (j * 2) (by omega)
      obtain ⟨⟨v1, hv1⟩, hf1⟩ := hwr (j * 2 + 1) (by omega)
      have hbr : b < wr.heap.size := Nat.lt_of_lt_of_le hb hk.size
      go_wp2_with fail
      refine (markText_at _ (k + 2 * j) rfl (by omega) (by omega) _).mono ?_
      rintro e w1 ⟨rfl, hb1⟩
      have c1 := (hb1.cell (p := ⟨b, o + j * 2, none⟩) hbr).trans hv0
      have d1 := (hb1.frozen (p := ⟨b, o + j * 2, none⟩) hbr).trans hf0
      go_wp2_with fail
      refine (markText_at _ (k + 2 * j + 1) (by push_cast; rfl) (by omega) (by omega) _).mono ?_
      rintro e w2 ⟨rfl, hb2⟩
      have hb1s := hb1.size
      have c2 := (hb2.cell (p := ⟨b, o + (j * 2 + 1), none⟩) (by simp [World.setCell] <;> omega)).trans ((World.cell?_setCell_other _ _ _ _ (by simp <;> omega)).trans ((hb1.cell (p := ⟨b, o + (j * 2 + 1), none⟩) hbr).trans hv1))
      have d2 := (hb2.frozen (p := ⟨b, o + (j * 2 + 1), none⟩) (by simp [World.setCell]; omega)).trans ((by simp : _ = w1.frozen? ⟨b, o + (j * 2 + 1), none⟩).trans ((hb1.frozen (p := ⟨b, o + (j * 2 + 1), none⟩) hbr).trans hf1))
      rw [← Nat.add_assoc] at c2 d2
      go_wp2_with fail
      have R := mark_step (k := k) hb hlt hk hwr hr hb1 hb2
      go_roundw
      case rel => exact ⟨j + 1, by omega, by go_num, by go_num, R.1, R.2.1, R.2.2⟩
      case measure => simp [intOf]; omega
    · go_wp2
      go_ret
      obtain rfl : j = n := by omega
      exact ⟨rfl, hk, hr⟩

set_option maxRecDepth 10000 in
theorem heldRuleS_ok (A : Option Addr) (n c k : Nat) (w : World) (hr : RRd w A (marks k n)) (h0 : 0 < k) (h1 : k ≤ 4611686018427387904 / 4) (hn : n ≤ 4611686018427387904 / 4) :
    Calls Try.prog 56 #[.slice A n c, .int .i64 k] w fun e w' => e = .returned (.int .i64 (k + 2 * n : Nat)) ∧ Below w.heap.size w w' := by
  go_enter Try.func56, Try.ntmps56
  go_wp2
  go_loopw [1, 5] (fun q i wr => ∃ j : Nat, j ≤ n ∧ i = .int .i64 j ∧ q = .int .i64 (k + 2 * j : Nat) ∧ Below w.heap.size w wr) (fun _ i _ => n - (intOf i).toNat)
  case atStart => exact ⟨0, Nat.zero_le _, rfl, rfl, Below.refl _ _⟩
  case round =>
    obtain ⟨j, hj, rfl, rfl, hbel⟩ := hrel
    by_cases hlt : j < n
    · obtain ⟨b, o, rfl, hb, hc0, hc1⟩ := hr j _ (marks_at hlt)
      simp only at hc0 hc1
      have e0 := (hbel.cell hb).trans hc0
      go_wp2_with fail
      go_region_held3 (fun w' => w'.cell? ⟨b, o + j * 2, none⟩ = some (.string (mt (k + 2 * j))) ∧ Below w.heap.size w w')
        (first | (exact ⟨e0, hbel.drew⟩) | (exact ⟨(hb2.cell hb).trans hc0, hb2⟩) | go_keep)
        (first | (go_at_call 83; refine (markText_at _ (k + 2 * j) rfl (by omega) (by omega) _).mono ?_; rintro e w' ⟨rfl, hbl⟩; have hb2 := Below.step hbel.drew hbl))
      clear hbl e0
      have e1 := (hb2.cell hb).trans hc1
      go_wp2_with fail
      go_region_held3 (fun w' => w'.cell? ⟨b, o + j * 2 + 1, none⟩ = some (.string (mt (k + 2 * j + 1))) ∧ Below w.heap.size w w')
        (first | (exact ⟨e1, hb2.drew⟩) | (exact ⟨(hb3.cell hb).trans hc1, hb3⟩) | go_keep)
        (first | (go_at_call 83; refine (markText_at _ (k + 2 * j + 1) (by push_cast; rfl) (by omega) (by omega) _).mono ?_; rintro e w3 ⟨rfl, hbl⟩; have hb3 := Below.step hb2.drew hbl))
      clear hbl e1
      go_wp2
      go_roundw
      case rel => exact ⟨j + 1, by omega, by go_num, by go_num, hb3⟩
      case measure => simp [intOf]; omega
    · go_wp2
      go_ret
      obtain rfl : j = n := by omega
      exact ⟨rfl, hbel⟩

theorem markGrammar_any (u : ByteArray) (b o n c k : Nat) (w : World) (hb : b < w.heap.size) (hw : Wr w b o (2 * n)) (h0 : 0 < k) (h1 : k ≤ 4611686018427387904 / 4) (hn : n ≤ 4611686018427387904 / 4) :
    Calls Try.prog 20 #[.agg #[.string u, .slice (some ⟨b, o, none⟩) n c], .int .i64 k] w fun e w' => e = .returned (.int .i64 (k + 2 * n : Nat)) ∧ Keep (· = b) w w' ∧ RRd w' (some ⟨b, o, none⟩) (marks k n) := by
  go_enter Try.func20, Try.ntmps20
  go_wp2_with fail
  refine (markRuleS_any b o n c k _ (Nat.lt_of_lt_of_le hb (size_alloc_lt _ _)) (hw.keep (S := fun _ => False) (Keep.of_below (below_alloc _ _)) hb id) h0 h1 hn).mono ?_
  rintro e w1 ⟨rfl, hk, hr⟩
  go_wp2
  go_ret
  exact ⟨rfl, (Keep.of_below (below_alloc _ _)).trans hk, hr⟩

theorem heldGrammar_ok (u : ByteArray) (A : Option Addr) (n c k : Nat) (w : World) (hr : RRd w A (marks k n)) (h0 : 0 < k) (h1 : k ≤ 4611686018427387904 / 4) (hn : n ≤ 4611686018427387904 / 4) :
    Calls Try.prog 21 #[.agg #[.string u, .slice A n c], .int .i64 k] w fun e w' => e = .returned (.int .i64 (k + 2 * n : Nat)) ∧ Below w.heap.size w w' := by
  go_enter Try.func21, Try.ntmps21
  go_wp2_with fail
  refine (heldRuleS_ok A n c k _ (hr.below (below_alloc _ _)) h0 h1 hn).mono ?_
  rintro e w1 ⟨rfl, hk⟩
  go_wp2
  go_ret
  exact ⟨rfl, Below.step (below_alloc _ _) hk⟩

theorem eqGrammar_any (s t : ByteArray) (A B : Option Addr) (ca cb : Nat) (rs ts : List RuleV) (w : World) (hA : RRd w A rs) (hB : RRd w B ts) (h1 : rs.length ≤ maxLen) (h2 : ts.length ≤ maxLen) :
    Calls Try.prog 19 #[.agg #[.string s, .slice A rs.length ca], .agg #[.string t, .slice B ts.length cb]] w fun e w' => e = .returned (.bool (decide (s = t) && decide (rs = ts))) ∧ Below w.heap.size w w' := by
  by_cases hs : s = t
  · subst hs
    go_enter Try.func19, Try.ntmps19
    go_wp2_with fail
    refine (eqRuleS_any A B ca cb rs ts _ ((hA.below (below_alloc _ _)).below (below_alloc _ _)) ((hB.below (below_alloc _ _)).below (below_alloc _ _)) h1 h2).mono ?_
    rintro e w1 ⟨rfl, hk⟩
    have hbel := Below.step (Below.step (below_alloc w _) (below_alloc _ _)) hk
    have HB := Lib.hid hbel
    clear hbel hk
    generalize hd : decide (rs = ts) = d
    cases d
    all_goals
      go_wp2
      go_ret
      exact ⟨ret_bool (by simp [hd]), HB.out⟩
  · have hd : (s.toList == t.toList) = false := by rw [beq_toList]; simp [hs]
    go_enter Try.func19, Try.ntmps19
    go_wp2_with fail
    go_ret
    exact ⟨ret_bool (by simp [hs]), by go_grown⟩
end Go.Proofs.Ytfblpibioegmkaa
