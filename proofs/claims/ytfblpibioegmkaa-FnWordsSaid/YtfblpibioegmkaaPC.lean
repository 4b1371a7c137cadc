/- PutRule: the clone. -/
import Derived.Test.YtfblpibioegmkaaPB
import Derived.Test.YtfblpibioegmkaaPushK
import Derived.Lib.SliceRun
namespace Go.Proofs.Ytfblpibioegmkaa
open Go.RowKit

def rv (x : RuleV) : List Value := [.string x.1, .string x.2]
theorem flat_len : ∀ rs : List RuleV, (rs.flatMap rv).length = rs.length * 2
  | [] => rfl
  | x :: l => by
    have := flat_len l
    rw [List.flatMap_cons, List.length_append, this, List.length_cons]
    have : (rv x).length = 2 := rfl
    omega
theorem flat_at : ∀ {rs : List RuleV} {j : Nat} {u : Value}, (rs.flatMap rv)[j]? = some u → ∃ i r, rs[i]? = some r ∧ ((j = i * 2 ∧ u = .string r.1) ∨ (j = i * 2 + 1 ∧ u = .string r.2))
  | [], j, u, h => by simp at h
  | x :: l, 0, u, h => by
    have : u = .string x.1 := by simpa [rv] using h.symm
    exact ⟨0, x, rfl, .inl ⟨rfl, this⟩⟩
  | x :: l, 1, u, h => by
    have : u = .string x.2 := by simpa [rv] using h.symm
    exact ⟨0, x, rfl, .inr ⟨rfl, this⟩⟩
  | x :: l, j + 2, u, h => by
    have h' : (l.flatMap rv)[j]? = some u := by
      rw [List.flatMap_cons] at h
      have e : (rv x ++ l.flatMap rv)[j + 2]? = (l.flatMap rv)[j]? := by simp [rv]
      rw [e] at h
      exact h
    obtain ⟨i, r, a, b⟩ := flat_at h'
    refine ⟨i + 1, r, by simpa using a, ?_⟩
    rcases b with ⟨b1, b2⟩ | ⟨b1, b2⟩
    · exact .inl ⟨by omega, b2⟩
    · exact .inr ⟨by omega, b2⟩
theorem rules_news {w : World} {q : Addr} {rs : List RuleV} (hA : RRd w (some q) rs) : ∀ j u, (rs.flatMap rv)[j]? = some u → w.cell? (q.add j) = some u := by
  intro j u hj
  obtain ⟨i, r, a, b⟩ := flat_at hj
  obtain ⟨c, o, e, _, e0, e1⟩ := hA i r a
  injection e with e
  subst e
  have ea : (⟨c, o, none⟩ : Addr).add j = ⟨c, o + j, none⟩ := by
    unfold Addr.add
    split
    · rename_i h; rw [h]; rfl
    · rfl
  rw [ea]
  rcases b with ⟨rfl, rfl⟩ | ⟨rfl, rfl⟩
  · exact e0
  · exact e1
theorem rules_one {rs : List RuleV} : ∀ u ∈ rs.flatMap rv, u.oneCell' = true := by
  intro u hu
  obtain ⟨x, _, hx⟩ := List.mem_flatMap.1 hu
  have : u = .string x.1 ∨ u = .string x.2 := by simpa [rv] using hx
  rcases this with rfl | rfl <;> rfl
set_option maxRecDepth 100000 in
set_option maxHeartbeats 1000000 in
theorem clone_any (A : Option Addr) (c : Nat) (rs : List RuleV) (w : World) (hA : RRd w A rs) (hn : rs.length ≤ 8) :
    Calls Try.prog 72 #[.slice A rs.length c] w fun e w' => ∃ v, e = .returned v ∧ w'.ownsRow w.heap.size 55 2 v rs.length (rs.flatMap rv) ∧ Below w.heap.size w w' := by
  obtain ⟨i0, hi, hz0, hz1, hz2⟩ := info_parts info.rule
  have q22 : ∀ (w : World) (a : Option Addr) (n c n' c' : Nat), (binOp .eql 23 (.slice a n c) (.slice none n' c')).run Try.prog w = .ok (.bool a.isNone) w := fun w a n c n' c' => Lib.run_eql_slice_nil w _ _ a n c n' c' Try.underlying23
  cases A with
  | none =>
    have hrs : rs = [] := by
      cases rs with
      | nil => rfl
      | cons x l =>
        obtain ⟨b, o, e, _⟩ := hA 0 x rfl
        cases e
    subst hrs
    go_enter Try.func72, Try.ntmps72
    go_wp2
    go_ret
    exact ⟨_, rfl, ⟨rfl, .inl ⟨rfl, rfl⟩⟩, Below.refl _ _⟩
  | some q =>
    have hnews := Lib.hid (rules_news (hA.below (below_alloc w (.cells #[] 55))))
    have hfl := flat_len rs
    have HF := Lib.hid hfl
    clear hfl
    go_enter Try.func72, Try.ntmps72
    go_wp2_with (at_builtin; refine wpList_append_own _ rfl _ _ 23 rfl w.heap.size 55 i0 (.agg #[.string ⟨#[]⟩, .string ⟨#[]⟩]) 2 32 Try.underlying23 hi hz0 hz1 hz2 rfl (by decide) _ _ _ rfl (World.ownsRow_made w #[] 0 (Nat.le_refl _) (Nat.zero_le _) rfl) q rs.length c (rs.flatMap rv) rfl HF.out hnews.out rules_one (by unfold maxLen; omega) (by omega) (size_alloc_lt _ _) ?_)
    intro v' w' ho hg _
    have hb : Below w.heap.size w w' := ((Below.refl _ _).alloc (Nat.le_refl _) _).trans (own_below (World.ownsRow_made (e := 55) (size := 2) w #[] 0 (Nat.le_refl _) (Nat.zero_le _) rfl) hg rfl (size_alloc_lt _ _))
    go_wp2
    go_ret
    exact ⟨_, rfl, ho, hb⟩
end Go.Proofs.Ytfblpibioegmkaa
