/- FnWords: the calls at a drawn grammar. -/
import Derived.Test.YtfblpibioegmkaaW6
namespace Go.Proofs.Ytfblpibioegmkaa
open Go.RowKit

theorem gram_sizes {s : ByteArray} {rs : List RuleV} (h : gramB s rs = true) : rs.length ≤ maxLen ∧ s.size ≤ maxLen ∧ ∀ r ∈ rs, r.1.size ≤ maxLen ∧ r.2.size ≤ maxLen := by
  obtain ⟨h1, h2, _⟩ := gram_parts h
  have h3 := gram_start h
  have h4 := gram_small h
  unfold maxLen
  exact ⟨by omega, by omega, fun r hr => by have := h2 r hr; have := h4 r hr; omega⟩
section
variable {s : ByteArray} {rs : List RuleV}
theorem rpD (D : DG s rs) {k : Nat} (hk : k ≤ 4) (q : Int) (hq : q = k) (A : Option Addr) (c : Nat) (w : World) (hA : RRd w A rs) :
    Calls Try.prog 35 #[.agg #[.string s, .slice A rs.length c], .int .i64 q] w fun e w' => e = .returned (.tuple #[.string (itT rs s k), .bool true]) ∧ Below w.heap.size w w' := by
  subst hq
  obtain ⟨z1, z2, z3⟩ := gram_sizes D.gram
  obtain ⟨e1, e2, _⟩ := D.rp hk
  have h := implRP_any s A c rs k w hA z1 z2 z3
  rw [e1, e2] at h
  exact h
theorem roD (D : DG s rs) {k : Nat} (hk : k ≤ 3) (A : Option Addr) (c : Nat) (w : World) (hA : RRd w A rs) :
    Calls Try.prog 33 #[.agg #[.string s, .slice A rs.length c], .string (itT rs s k)] w fun e w' => e = .returned (.tuple #[.string (itT rs s (k + 1)), .bool true]) ∧ Below w.heap.size w w' := by
  obtain ⟨z1, z2, z3⟩ := gram_sizes D.gram
  obtain ⟨e1, e2⟩ := D.rw hk
  have h := implRO_any s A c rs (itT rs s k) (by have := (D.rp (show k ≤ 4 by omega)).2.2.2; unfold maxLen; omega) w hA z1 z2 z3
  rw [e1, e2] at h
  exact h
def onceS (rs : List RuleV) (t : ByteArray) : ByteArray := ⟨(onceM rs t.data.toList).toArray⟩
theorem roW (D : DG s rs) (t : ByteArray) (ht : t.size ≤ 16) (hg : t.data.toList.all okc = true) (A : Option Addr) (c : Nat) (w : World) (hA : RRd w A rs) :
    Calls Try.prog 33 #[.agg #[.string s, .slice A rs.length c], .string t] w fun e w' => e = .returned (.tuple #[.string (onceS rs t), .bool true]) ∧ Below w.heap.size w w' := by
  obtain ⟨z1, z2, z3⟩ := gram_sizes D.gram
  obtain ⟨e1, e2⟩ := D.once ht hg
  have h := implRO_any s A c rs t (by unfold maxLen; omega) w hA z1 z2 z3
  rw [e1, e2] at h
  exact h
theorem laD (D : DG s rs) {k : Nat} (hk : k ≤ 3) (A : Option Addr) (c : Nat) (w : World) (hA : RRd w A rs) :
    Calls Try.prog 39 #[.agg #[.string s, .slice A rs.length c], .int .i64 k] w fun e w' => ∃ g, e = .returned (.tuple #[.slice (some ⟨g, 0, none⟩) 27 27, .bool true]) ∧ w.heap.size ≤ g ∧ Vec w' g (cnt (itT rs s k).data.toList) ∧ Below w.heap.size w w' := by
  obtain ⟨z1, z2, z3⟩ := gram_sizes D.gram
  obtain ⟨e1, e2, _⟩ := D.la hk
  refine (implLA_any s A c rs k w hA z1 z2 z3).mono ?_
  intro e w' h
  unfold LaR at h
  rw [e1, Int.toNat_natCast, e2] at h
  rcases h with ⟨_, h⟩ | ⟨h, _⟩
  · exact h
  · cases h
theorem loD (D : DG s rs) {k : Nat} (hk : k ≤ 3) (A : Option Addr) (c : Nat) (w : World) (hA : RRd w A rs) :
    Calls Try.prog 37 #[.agg #[.string s, .slice A rs.length c], .int .i64 k] w fun e w' => e = .returned (.tuple #[.int .i64 (cnt (itT rs s k).data.toList 5), .bool true]) ∧ Below w.heap.size w w' := by
  obtain ⟨z1, z2, z3⟩ := gram_sizes D.gram
  obtain ⟨e1, _, e2⟩ := D.la hk
  have h := implLo_any s A c rs k w hA z1 z2 z3
  unfold LongR at h
  rw [e1, e2] at h
  exact h
theorem longC {n : Int} {v : Int} (hG : gramB s rs = true) (h1 : laB s rs n = true) (h2 : loV s rs n = v) (A : Option Addr) (c : Nat) (w : World) (hA : RRd w A rs) :
    Calls Try.prog 37 #[.agg #[.string s, .slice A rs.length c], .int .i64 n] w fun e w' => e = .returned (.tuple #[.int .i64 v, .bool true]) ∧ Below w.heap.size w w' := by
  obtain ⟨z1, z2, z3⟩ := gram_sizes hG
  have h := implLo_any s A c rs n w hA z1 z2 z3
  unfold LongR at h
  rw [h1, h2] at h
  exact h
theorem putC {l : List RuleV} (hG : gramB s rs = true) (hp : putV s rs qR = some l) (A : Option Addr) (c : Nat) (w : World) (hA : RRd w A rs) :
    Calls Try.prog 46 #[.agg #[.string s, .slice A rs.length c], .agg #[.string ⟨#[81]⟩, .string ⟨#[70, 45, 81]⟩]] w fun e w' => ∃ A' c', e = .returned (.tuple #[.agg #[.string s, .slice A' l.length c'], .bool true]) ∧ RRd w' A' l ∧ Below w.heap.size w w' := by
  obtain ⟨z1, z2, z3⟩ := gram_sizes hG
  refine (implPut_any s A c rs qR w hA z1 z2 z3 (by decide) (by decide)).mono ?_
  rintro e w' ⟨k, h⟩
  rw [hp] at h
  obtain ⟨v, h, ho⟩ := h
  obtain ⟨A', c', rfl, hr⟩ := own_rrd ho
  exact ⟨A', c', h, hr, k⟩
theorem qC {l : List RuleV} (hG : gramB s l = true) (h1 : rwB s l ⟨#[81]⟩ = true) (h2 : rwV s l ⟨#[81]⟩ = ⟨#[70, 45, 81]⟩) (A : Option Addr) (c : Nat) (w : World) (hA : RRd w A l) :
    Calls Try.prog 33 #[.agg #[.string s, .slice A l.length c], .string ⟨#[81]⟩] w fun e w' => e = .returned (.tuple #[.string ⟨#[70, 45, 81]⟩, .bool true]) ∧ Below w.heap.size w w' := by
  obtain ⟨z1, z2, z3⟩ := gram_sizes hG
  have h := implRO_any s A c l ⟨#[81]⟩ (by decide) w hA z1 z2 z3
  rw [h1, h2] at h
  exact h
theorem sameC {l : List RuleV} (hG : gramB s l = true) (A B : Option Addr) (ca cb : Nat) (w : World) (hA : RRd w A l) (hB : RRd w B l) :
    Calls Try.prog 29 #[.agg #[.string s, .slice A l.length ca], .agg #[.string s, .slice B l.length cb]] w fun e w' => e = .returned (.bool true) ∧ Below w.heap.size w w' := by
  obtain ⟨z1, z2, z3⟩ := gram_sizes hG
  have h := implSG_any s s A B ca cb l l w hA hB z1 z1
  have e : sameG s s l l = true := by unfold sameG; simp
  rw [e] at h
  exact h
end
end Go.Proofs.Ytfblpibioegmkaa
