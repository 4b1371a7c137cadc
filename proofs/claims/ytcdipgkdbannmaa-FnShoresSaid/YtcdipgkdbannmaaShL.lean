/- A coast is there if and only if some places are higher and some are not. Plain. -/
import Derived.Test.YtcdipgkdbannmaaIslV
import Derived.Test.YtcdipgkdbannmaaMa
namespace Go.Proofs.Ytcdipgkdbannmaa
open Go.RowKit

theorem cntN_pos {f : Nat → Bool} {N : Nat} : 0 < cntN f N ↔ ∃ i, i < N ∧ f i = true := by
  unfold cntN
  rw [List.countP_pos_iff]
  constructor
  · rintro ⟨i, hi, h⟩
    exact ⟨i, List.mem_range.1 hi, h⟩
  · rintro ⟨i, hi, h⟩
    exact ⟨i, List.mem_range.2 hi, h⟩
theorem cntN_lt {f : Nat → Bool} {N : Nat} : cntN f N < N ↔ ∃ i, i < N ∧ f i = false := by
  have hle : cntN f N ≤ N := by
    have := List.countP_le_length (p := f) (l := List.range N)
    rw [List.length_range] at this
    exact this
  constructor
  · intro h
    apply Classical.byContradiction
    intro hn
    have hall : ∀ i ∈ List.range N, f i = true := fun i hi => by
      cases hf : f i
      · exact absurd ⟨i, List.mem_range.1 hi, hf⟩ hn
      · rfl
    have := List.countP_eq_length.2 hall
    rw [List.length_range] at this
    unfold cntN at h
    omega
  · rintro ⟨i, hi, hf⟩
    rcases Nat.lt_or_eq_of_le hle with h | h
    · exact h
    · exfalso
      have : List.countP f (List.range N) = (List.range N).length := by rw [List.length_range]; exact h
      have := List.countP_eq_length.1 this i (List.mem_range.2 hi)
      rw [hf] at this
      cases this
theorem coP_nil (l : List Nat) (W lev : Nat) (d : Bool) (q : Nat × Nat) : coP l W lev d q = [] ↔ ovB l lev q.1 = ovB l lev q.2 := by
  unfold coP ovB
  cases (ford .f32 (l.getD q.1 0) lev == some .gt) <;> cases (ford .f32 (l.getD q.2 0) lev == some .gt) <;> cases d <;> simp
theorem visR_mem {W n : Nat} {q : Nat × Nat} : q ∈ visR W 1 n ↔ q.1 < n ∧ q.1 % W + 1 < W ∧ q.2 = q.1 + 1 := by
  unfold visR
  rw [List.mem_filterMap]
  constructor
  · rintro ⟨i, hi, h⟩
    split at h
    · rename_i h1
      injection h with h
      subst h
      exact ⟨List.mem_range.1 hi, h1, rfl⟩
    · cases h
  · rintro ⟨h1, h2, h3⟩
    refine ⟨q.1, List.mem_range.2 h1, ?_⟩
    rw [if_pos h2, ← h3]
theorem visC_mem {W H n : Nat} {q : Nat × Nat} : q ∈ visC W H 1 n ↔ q.1 < n ∧ q.1 / W + 1 < H ∧ q.2 = q.1 + W := by
  unfold visC
  rw [List.mem_filterMap]
  constructor
  · rintro ⟨i, hi, h⟩
    split at h
    · rename_i h1
      injection h with h
      subst h
      exact ⟨List.mem_range.1 hi, h1, by simp⟩
    · cases h
  · rintro ⟨h1, h2, h3⟩
    refine ⟨q.1, List.mem_range.2 h1, ?_⟩
    rw [if_pos h2, Nat.one_mul, ← h3]
theorem coast_iff {l : List Nat} {W H lev : Nat} (hW : 0 < W) :
    0 < (coL l W lev (visR W 1 (H * W)) (visC W H 1 (H * W))).length ↔ 0 < cntN (ovB l lev) (W * H) ∧ cntN (ovB l lev) (W * H) < W * H := by
  have hN : H * W = W * H := Nat.mul_comm _ _
  constructor
  · intro h
    obtain ⟨p, hp⟩ := List.exists_mem_of_length_pos h
    unfold coL at hp
    have : ∃ i k, i < W * H ∧ k < W * H ∧ ¬ ovB l lev i = ovB l lev k := by
      rcases List.mem_append.1 hp with h1 | h1
      · obtain ⟨q, hq, h2⟩ := List.mem_flatMap.1 h1
        obtain ⟨a, b, c⟩ := visR_mem.1 hq
        refine ⟨q.1, q.2, by omega, ?_, fun e => by rw [(coP_nil l W lev false q).2 e] at h2; cases h2⟩
        rw [c]
        have hd := Nat.div_add_mod q.1 W
        have hlt : q.1 / W < H := by rw [Nat.div_lt_iff_lt_mul hW]; omega
        have h3 : W * (q.1 / W + 1) ≤ W * H := Nat.mul_le_mul_left _ hlt
        rw [Nat.mul_add, Nat.mul_one] at h3
        omega
      · obtain ⟨q, hq, h2⟩ := List.mem_flatMap.1 h1
        obtain ⟨a, b, c⟩ := visC_mem.1 hq
        refine ⟨q.1, q.2, by omega, ?_, fun e => by rw [(coP_nil l W lev true q).2 e] at h2; cases h2⟩
        rw [c]
        have hd := Nat.div_add_mod q.1 W
        have hm := Nat.mod_lt q.1 hW
        have h3 : W * (q.1 / W + 1 + 1) ≤ W * H := Nat.mul_le_mul_left _ b
        rw [Nat.mul_add, Nat.mul_add, Nat.mul_one] at h3
        omega
    obtain ⟨i, k, hi, hk, hne⟩ := this
    cases hf : ovB l lev i
    · cases hg : ovB l lev k
      · exact absurd (hf.trans hg.symm) hne
      · exact ⟨cntN_pos.2 ⟨k, hk, hg⟩, cntN_lt.2 ⟨i, hi, hf⟩⟩
    · cases hg : ovB l lev k
      · exact ⟨cntN_pos.2 ⟨i, hi, hf⟩, cntN_lt.2 ⟨k, hk, hg⟩⟩
      · exact absurd (hf.trans hg.symm) hne
  · rintro ⟨h1, h2⟩
    obtain ⟨i, hi, hf⟩ := cntN_pos.1 h1
    obtain ⟨k, hk, hg⟩ := cntN_lt.1 h2
    rcases Nat.eq_zero_or_pos (coL l W lev (visR W 1 (H * W)) (visC W H 1 (H * W))).length with h0 | h0
    · exfalso
      have hnil := List.length_eq_zero_iff.1 h0
      unfold coL at hnil
      obtain ⟨n1, n2⟩ := List.append_eq_nil_iff.1 hnil
      have ha := grid_alike (W := W) (H := H) (f := ovB l lev)
        (fun j hj hj2 => (coP_nil l W lev false (j, j + 1)).1 (by
          have := List.flatMap_eq_nil_iff.1 n1 (j, j + 1) (visR_mem.2 ⟨by omega, hj2, rfl⟩)
          exact this))
        (fun j hj hj2 => (coP_nil l W lev true (j, j + W)).1 (by
          have := List.flatMap_eq_nil_iff.1 n2 (j, j + W) (visC_mem.2 ⟨by omega, hj2, rfl⟩)
          exact this))
      have e1 := ha i hi
      have e2 := ha k hk
      rw [hf] at e1
      rw [hg, ← e1] at e2
      cases e2
    · exact h0
theorem foldl_max_ge : ∀ (l : List Nat) (a : Nat), a ≤ l.foldl Nat.max a
  | [], _ => Nat.le_refl _
  | x :: l, a => Nat.le_trans (Nat.le_max_left a x) (foldl_max_ge l (Nat.max a x))
theorem maxL_ge {cs : List Nat} {c : Nat} (h : c ∈ cs) : c ≤ maxL cs := by
  unfold maxL
  have : ∀ (l : List Nat) (a : Nat), c ∈ l → c ≤ l.foldl Nat.max a := by
    intro l
    induction l with
    | nil => intro a h; cases h
    | cons x l ih =>
      intro a h
      rcases List.mem_cons.1 h with e | e
      · subst e
        exact Nat.le_trans (Nat.le_max_right a c) (foldl_max_ge l (Nat.max a c))
      · exact ih _ e
  exact this cs 0 h
/-- Islands have all that is higher. -/
theorem isl_nums {nb : Nat → List Nat} {f : Nat → Bool} {N : Nat} {S : List Bool} {cs : List Nat} (h : Isl nb f N N S cs) :
    maxL cs ≤ cntN f N ∧ cs.length ≤ cntN f N ∧ (0 < cntN f N ↔ 0 < cs.length) ∧ (0 < cs.length ↔ 0 < maxL cs) ∧ cntN f N ≤ maxL cs * cs.length := by
  obtain ⟨h1, h2⟩ := h.sums
  have a1 := sum_ge_len h2
  have a2 := sum_le_mul (cs := cs) (m := maxL cs) (fun c hc => maxL_ge hc)
  have a3 : maxL cs ≤ cs.sum := maxL_le (fun c hc => sum_ge_mem hc)
  rw [h1] at a1 a2 a3
  refine ⟨a3, a1, ⟨fun hp => ?_, fun hp => by omega⟩, ⟨fun hp => ?_, fun hp => ?_⟩, a2⟩
  · rcases Nat.eq_zero_or_pos cs.length with e | e
    · rw [e, Nat.mul_zero] at a2; omega
    · exact e
  · obtain ⟨c, hc⟩ := List.exists_mem_of_length_pos hp
    have := maxL_ge hc
    have := h2 c hc
    omega
  · rcases Nat.eq_zero_or_pos cs.length with e | e
    · have := List.length_eq_zero_iff.1 e
      subst this
      exact absurd hp (by decide)
    · exact e
end Go.Proofs.Ytcdipgkdbannmaa
