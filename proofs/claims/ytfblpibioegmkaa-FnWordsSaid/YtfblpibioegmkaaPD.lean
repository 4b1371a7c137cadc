/- PutRule: a rule put behind all others. -/
import Derived.Test.YtfblpibioegmkaaPC
import Derived.Deep.AppendLies
namespace Go.Proofs.Ytfblpibioegmkaa
open Go.RowKit

theorem rule_one (r : RuleV) : ∀ u ∈ rv r, u.oneCell' = true := by
  intro u hu
  have : u = .string r.1 ∨ u = .string r.2 := by simpa [rv] using hu
  rcases this with rfl | rfl <;> rfl
set_option maxRecDepth 100000 in
set_option maxHeartbeats 1000000 in
theorem insert_end (w : World) (B : Nat) (v : Value) (rs : List RuleV) (r : RuleV) (hv : w.ownsRow B 55 2 v rs.length (rs.flatMap rv)) (hn : rs.length ≤ 8) (hB : B ≤ w.heap.size) (q : Addr) (c : Nat) (hq : ∀ j u, (rv r)[j]? = some u → w.cell? (q.add j) = some u) :
    Calls Try.prog 76 #[v, .int .i64 rs.length, .slice (some q) 1 c] w fun e w' => ∃ v', e = .returned v' ∧ w'.ownsRow B 55 2 v' (rs.length + 1) ((rs ++ [r]).flatMap rv) ∧ w.grownBy w' v.ownBlock ∧ ∀ g, v'.ownBlock = some g → v.ownBlock = some g ∨ w.heap.size ≤ g := by
  obtain ⟨i0, hi, hz0, hz1, hz2⟩ := info_parts info.rule
  obtain ⟨A, cA, rfl⟩ : ∃ A cA, v = .slice A rs.length cA := by
    rcases hv.2 with ⟨rfl, h0⟩ | ⟨g, cap, cur, rfl, _⟩
    · exact ⟨none, 0, by rw [h0]⟩
    · exact ⟨_, _, rfl⟩
  have hcap : rs.length ≤ cA := by
    rcases hv.2 with ⟨h, h0⟩ | ⟨g, cap, cur, h, _, _, hc, _⟩
    · omega
    · injection h with _ _ h3
      omega
  have HQ := Lib.hid hq
  clear hq
  go_enter Try.func76, Try.ntmps76
  go_wp2_with (at_builtin; refine wpList_append_lies _ rfl _ _ 23 rfl B 55 i0 (.agg #[.string ⟨#[]⟩, .string ⟨#[]⟩]) 2 32 Try.underlying23 hi hz0 hz1 hz2 rfl (by decide) _ rs.length (rs.flatMap rv) rfl hv q 1 c (rv r) rfl rfl HQ.out (rule_one r) (by decide) (by unfold maxLen; omega) (by omega) hB _ rfl ?_)
  all_goals
    intro g cap w' ho hg hor hlt
    have e : rs.flatMap rv ++ rv r = (rs ++ [r]).flatMap rv := by simp
    rw [e] at ho
    have HOR := Lib.hid hor
    clear hor
    go_wp2
    go_ret
    exact ⟨_, rfl, ho, by cases A <;> exact hg, fun g' e => by
      have e2 : g = g' := by simpa [Value.ownBlock] using e
      subst e2
      rcases HOR.out with h | h
      · exact .inl (by cases A <;> exact h)
      · exact .inr (by omega)⟩
end Go.Proofs.Ytfblpibioegmkaa
