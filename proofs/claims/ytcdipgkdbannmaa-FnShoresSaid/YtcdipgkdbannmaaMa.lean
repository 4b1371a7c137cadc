/- Several texts in one: Isle, ShI, ShC. -/
/- Islands: what is reached over a graph, in plain lists. -/
namespace Go.Proofs.Ytcdipgkdbannmaa

/-- Is a place marked? -/
def at? (S : List Bool) (x : Nat) : Bool := S.getD x false
def cntT (S : List Bool) : Nat := S.countP id
theorem cntT_set {S : List Bool} {k : Nat} (hk : k < S.length) (h : at? S k = false) : cntT (S.set k true) = cntT S + 1 := by
  unfold cntT
  induction S generalizing k with
  | nil => cases hk
  | cons a l ih =>
    cases k with
    | zero =>
      have : a = false := by simpa [at?] using h
      subst this
      simp
    | succ k =>
      have := ih (k := k) (by simpa using hk) (by simpa [at?] using h)
      simp [List.countP_cons, this]
      omega
theorem at_set {S : List Bool} {k : Nat} (hk : k < S.length) (x : Nat) : at? (S.set k true) x = (decide (x = k) || at? S x) := by
  unfold at?
  simp only [List.getD_eq_getElem?_getD, List.getElem?_set]
  by_cases h : k = x
  · subst h; simp [hk]
  · simp [h, Ne.symm h]
theorem at_lt {S : List Bool} {x : Nat} (h : at? S x = true) : x < S.length := by
  unfold at? at h
  by_cases hx : x < S.length
  · exact hx
  · simp [List.getElem?_eq_none (Nat.le_of_not_lt hx)] at h
theorem at_ext {S T : List Bool} (hl : S.length = T.length) (h : ∀ x, at? S x = at? T x) : S = T := by
  apply List.ext_getElem hl
  intro i h1 h2
  have := h i
  simpa [at?, h1, h2] using this
theorem cntT_le (S : List Bool) : cntT S ≤ S.length := List.countP_le_length
section
variable (nb : Nat → List Nat) (full : Nat → Bool)
/-- What is reached from a place over places that are full. -/
inductive Rch (i : Nat) : Nat → Prop
  | base : Rch i i
  | step {x k : Nat} : Rch i x → k ∈ nb x → full k = true → Rch i k
/-- Marked places have no full neighbour that is not marked. -/
def ClosedM (S : List Bool) : Prop := ∀ x, at? S x = true → ∀ k ∈ nb x, full k = true → at? S k = true
/-- A flood from i is under way: the neighbours 'rest' of 'q' are still to be seen. -/
structure FlM (S0 : List Bool) (i : Nat) (S : List Bool) (pend : List Nat) (c : Nat) (q : Nat) (rest : List Nat) : Prop where
  len : S.length = S0.length
  sub : ∀ x, at? S0 x = true → at? S x = true
  strt : at? S i = true
  rch : ∀ x, at? S x = true → at? S0 x = true ∨ Rch nb full i x
  own : ∀ x, x ∈ pend ∨ rest ≠ [] ∧ x = q → at? S x = true ∧ Rch nb full i x
  cl : ∀ x, at? S x = true → at? S0 x = false → x ∉ pend → ∀ k ∈ nb x, full k = true → at? S k = true ∨ x = q ∧ k ∈ rest
  cnt : cntT S0 + c + pend.length = cntT S
  nbs : ∀ k ∈ rest, k ∈ nb q
variable {nb full} {S0 S : List Bool} {i c q : Nat} {pend rest : List Nat}
theorem FlM.start (hi : i < S0.length) (h0 : at? S0 i = false) : FlM nb full S0 i (S0.set i true) [i] 0 q [] where
  len := by simp
  sub x h := by rw [at_set hi, h]; simp
  strt := by rw [at_set hi]; simp
  rch x h := by
    rw [at_set hi] at h
    by_cases e : x = i
    · exact .inr (e ▸ .base)
    · exact .inl (by simpa [e] using h)
  own x h := by
    rcases h with h | h
    · have : x = i := by simpa using h
      subst this
      exact ⟨by rw [at_set hi]; simp, .base⟩
    · exact absurd rfl h.1
  cl x h h2 h3 := by
    rw [at_set hi] at h
    have e : ¬ x = i := by simpa using h3
    simp [e, h2] at h
  cnt := by rw [cntT_set hi h0]; simp
  nbs k h := by cases h
theorem FlM.pop {pend' : List Nat} {q0 : Nat} (h : FlM nb full S0 i S pend c q0 []) (hq : q ∈ pend) (hp : ∀ x, x ∈ pend → x = q ∨ x ∈ pend') (hp2 : ∀ x, x ∈ pend' → x ∈ pend) (hn : pend.length = pend'.length + 1) : FlM nb full S0 i S pend' (c + 1) q (nb q) where
  len := h.len
  sub := h.sub
  strt := h.strt
  rch := h.rch
  own x hx := by
    rcases hx with hx | ⟨_, rfl⟩
    · exact h.own x (.inl (hp2 x hx))
    · exact h.own x (.inl hq)
  cl x h1 h2 h3 k h4 h5 := by
    by_cases e : x ∈ pend
    · rcases hp x e with rfl | h6
      · exact .inr ⟨rfl, h4⟩
      · exact absurd h6 h3
    · rcases h.cl x h1 h2 e k h4 h5 with h6 | ⟨_, h6⟩
      · exact .inl h6
      · cases h6
  cnt := by have := h.cnt; omega
  nbs k h := h
theorem FlM.skip {k : Nat} (h : FlM nb full S0 i S pend c q (k :: rest)) (hk : full k = false ∨ at? S k = true) : FlM nb full S0 i S pend c q rest where
  len := h.len
  sub := h.sub
  strt := h.strt
  rch := h.rch
  own x hx := h.own x (hx.imp id (fun e => ⟨by simp, e.2⟩))
  cl x h1 h2 h3 j h4 h5 := by
    rcases h.cl x h1 h2 h3 j h4 h5 with h6 | ⟨e, h6⟩
    · exact .inl h6
    · rcases List.mem_cons.1 h6 with rfl | h7
      · rcases hk with h8 | h8
        · rw [h5] at h8; cases h8
        · exact .inl h8
      · exact .inr ⟨e, h7⟩
  cnt := h.cnt
  nbs j hj := h.nbs j (List.mem_cons_of_mem _ hj)
theorem FlM.push {k : Nat} (h : FlM nb full S0 i S pend c q (k :: rest)) (hk : full k = true) (h0 : at? S k = false) (hl : k < S.length) : FlM nb full S0 i (S.set k true) (pend ++ [k]) c q rest where
  len := by rw [List.length_set, h.len]
  sub x hx := by rw [at_set hl, h.sub x hx]; simp
  strt := by rw [at_set hl, h.strt]; simp
  rch x hx := by
    rw [at_set hl] at hx
    by_cases e : x = k
    · subst e
      exact .inr ((h.own q (.inr ⟨by simp, rfl⟩)).2.step (h.nbs x (List.mem_cons_self ..)) hk)
    · exact h.rch x (by simpa [e] using hx)
  own x hx := by
    rcases hx with hx | ⟨h1, rfl⟩
    · rcases List.mem_append.1 hx with h1 | h1
      · have := h.own x (.inl h1)
        exact ⟨by rw [at_set hl, this.1]; simp, this.2⟩
      · have : x = k := by simpa using h1
        subst this
        exact ⟨by rw [at_set hl]; simp, (h.own q (.inr ⟨by simp, rfl⟩)).2.step (h.nbs x (List.mem_cons_self ..)) hk⟩
    · have := h.own x (.inr ⟨by simp, rfl⟩)
      exact ⟨by rw [at_set hl, this.1]; simp, this.2⟩
  cl x h1 h2 h3 j h4 h5 := by
    have e : ¬ x = k := fun e => h3 (by simp [e])
    rw [at_set hl] at h1
    rcases h.cl x (by simpa [e] using h1) h2 (fun h6 => h3 (by simp [h6])) j h4 h5 with h6 | ⟨e2, h6⟩
    · exact .inl (by rw [at_set hl, h6]; simp)
    · rcases List.mem_cons.1 h6 with rfl | h7
      · exact .inl (by rw [at_set hl]; simp)
      · exact .inr ⟨e2, h7⟩
  cnt := by
    rw [cntT_set hl h0, List.length_append]
    have := h.cnt
    simp
    omega
  nbs j hj := h.nbs j (List.mem_cons_of_mem _ hj)
variable (nb full)
/-- What is marked once i's island is. -/
def CmpM (S0 : List Bool) (i : Nat) (S : List Bool) : Prop := S.length = S0.length ∧ ∀ x, at? S x = true ↔ at? S0 x = true ∨ Rch nb full i x
variable {nb full}
theorem FlM.done (h : FlM nb full S0 i S [] c q []) (hc : ClosedM nb full S0) : CmpM nb full S0 i S ∧ cntT S0 + c = cntT S ∧ ClosedM nb full S := by
  have cl : ClosedM nb full S := fun x h1 k h2 h3 => by
    cases e : at? S0 x
    · rcases h.cl x h1 e (by simp) k h2 h3 with h6 | ⟨_, h6⟩
      · exact h6
      · cases h6
    · exact h.sub k (hc x e k h2 h3)
  refine ⟨⟨h.len, fun x => ⟨h.rch x, fun hx => ?_⟩⟩, by have := h.cnt; simpa using this, cl⟩
  rcases hx with hx | hx
  · exact h.sub x hx
  · induction hx with
    | base => exact h.strt
    | step h1 h2 h3 ih => exact cl _ ih _ h2 h3
theorem CmpM.det {S S' : List Bool} (h : CmpM nb full S0 i S) (h' : CmpM nb full S0 i S') : S = S' :=
  at_ext (h.1.trans h'.1.symm) fun x => by
    have := (h.2 x).trans (h'.2 x).symm
    cases e : at? S x <;> cases e' : at? S' x <;> simp_all
variable (nb full)
/-- The first i places are seen: what is marked, and how large the islands are. -/
inductive Isl (N : Nat) : Nat → List Bool → List Nat → Prop
  | zero : Isl N 0 (List.replicate N false) []
  | skip {i : Nat} {S : List Bool} {cs : List Nat} : Isl N i S cs → full i = false ∨ at? S i = true → Isl N (i + 1) S cs
  | take {i : Nat} {S S' : List Bool} {cs : List Nat} {c : Nat} : Isl N i S cs → full i = true → at? S i = false → CmpM nb full S i S' → cntT S + c = cntT S' → ClosedM nb full S' → Isl N (i + 1) S' (cs ++ [c])
variable {nb full}
theorem Isl.len {N n : Nat} {S : List Bool} {cs : List Nat} (h : Isl nb full N n S cs) : S.length = N := by
  induction h with
  | zero => simp
  | skip _ _ ih => exact ih
  | take _ _ _ h _ _ ih => rw [h.1, ih]
theorem Isl.closed {N n : Nat} {S : List Bool} {cs : List Nat} (h : Isl nb full N n S cs) : ClosedM nb full S := by
  induction h with
  | zero =>
    intro x h
    exfalso
    have hl := at_lt h
    rw [List.length_replicate] at hl
    simp [at?, hl] at h
  | skip _ _ ih => exact ih
  | take _ _ _ _ _ h _ => exact h
theorem Isl.det {N n : Nat} {S S' : List Bool} {cs cs' : List Nat} (h : Isl nb full N n S cs) (h' : Isl nb full N n S' cs') : S = S' ∧ cs = cs' := by
  induction h generalizing S' cs' with
  | zero => cases h'; exact ⟨rfl, rfl⟩
  | skip h1 h2 ih =>
    cases h' with
    | skip h3 h4 => exact ih h3
    | take h3 h4 h5 h6 h7 h8 =>
      obtain ⟨rfl, rfl⟩ := ih h3
      rcases h2 with h2 | h2
      · rw [h2] at h4; cases h4
      · rw [h2] at h5; cases h5
  | take h1 h2 h3 h4 h5 h6 ih =>
    cases h' with
    | skip h7 h8 =>
      obtain ⟨rfl, rfl⟩ := ih h7
      rcases h8 with h8 | h8
      · rw [h2] at h8; cases h8
      · rw [h3] at h8; cases h8
    | take h7 h8 h9 h10 h11 h12 =>
      obtain ⟨rfl, rfl⟩ := ih h7
      obtain rfl := h4.det h10
      exact ⟨rfl, by rw [show _ = _ from Nat.add_left_cancel (h5.trans h11.symm)]⟩
end
end Go.Proofs.Ytcdipgkdbannmaa

/- Islands have all that is higher; a coast is there if and only if some is higher and some is not. Plain. -/
namespace Go.Proofs.Ytcdipgkdbannmaa

section
variable {nb : Nat → List Nat} {full : Nat → Bool}
theorem Rch.isFull {i x : Nat} (h : Rch nb full i x) (hi : full i = true) : full x = true := by
  cases h with
  | base => exact hi
  | step _ _ h => exact h
theorem cntT_mono {S T : List Bool} (hl : S.length = T.length) (h : ∀ x, at? S x = true → at? T x = true) : cntT S ≤ cntT T := by
  induction S generalizing T with
  | nil =>
    cases T with
    | nil => exact Nat.le_refl _
    | cons b T => cases hl
  | cons a S ih =>
    cases T with
    | nil => cases hl
    | cons b T =>
      have h0 := h 0
      have hs := ih (T := T) (by simpa using hl) (fun x hx => by
        have := h (x + 1)
        simpa [at?] using this (by simpa [at?] using hx))
      unfold cntT at hs ⊢
      simp only [List.countP_cons]
      cases a <;> cases b <;> simp [at?] at h0 ⊢ <;> omega
theorem cntT_strict {S T : List Bool} (hl : S.length = T.length) (h : ∀ x, at? S x = true → at? T x = true) {i : Nat} (h0 : at? S i = false) (h1 : at? T i = true) : cntT S < cntT T := by
  have hi := at_lt h1
  have h2 : cntT (S.set i true) = cntT S + 1 := cntT_set (by omega) h0
  have h3 := cntT_mono (S := S.set i true) (T := T) (by simpa using hl) (fun x hx => by
    rw [at_set (by omega)] at hx
    by_cases e : x = i
    · rw [e]; exact h1
    · exact h x (by simpa [e] using hx))
  omega
/-- What the marks and the counts are. -/
structure IslF (nb : Nat → List Nat) (full : Nat → Bool) (N n : Nat) (S : List Bool) (cs : List Nat) : Prop where
  len : S.length = N
  only : ∀ x, at? S x = true → full x = true
  all : ∀ i, i < n → full i = true → i < N → at? S i = true
  sum : cs.sum = cntT S
  pos : ∀ c ∈ cs, 1 ≤ c
theorem Isl.facts {N n : Nat} {S : List Bool} {cs : List Nat} (h : Isl nb full N n S cs) : IslF nb full N n S cs := by
  induction h with
  | zero =>
    have hz : ∀ x, at? (List.replicate N false) x = false := fun x => by
      unfold at?
      rw [List.getD_eq_getElem?_getD, List.getElem?_replicate]
      split <;> rfl
    refine ⟨by simp, fun x hx => (by rw [hz] at hx; cases hx), fun i hi => absurd hi (Nat.not_lt_zero _), ?_, by simp⟩
    have h0 : cntT (List.replicate N false) ≤ 0 := by
      have := cntT_mono (S := List.replicate N false) (T := List.replicate N false) rfl (fun _ h => h)
      unfold cntT
      rw [List.countP_replicate]
      simp
    show 0 = _
    omega
  | @skip i S cs _ h2 ih =>
    refine ⟨ih.len, ih.only, fun j hj hf hN => ?_, ih.sum, ih.pos⟩
    rcases Nat.lt_or_eq_of_le (Nat.le_of_lt_succ hj) with h | h
    · exact ih.all j h hf hN
    · subst h
      rcases h2 with h2 | h2
      · rw [h2] at hf; cases hf
      · exact h2
  | @take i S S' cs c _ hf h0 hC hc _ ih =>
    have hsub : ∀ x, at? S x = true → at? S' x = true := fun x hx => (hC.2 x).2 (.inl hx)
    have hi : at? S' i = true := (hC.2 i).2 (.inr .base)
    have hst := cntT_strict hC.1.symm hsub h0 hi
    refine ⟨hC.1.trans ih.len, fun x hx => ?_, fun j hj hfj hN => ?_, ?_, fun d hd => ?_⟩
    · rcases (hC.2 x).1 hx with h | h
      · exact ih.only x h
      · exact h.isFull hf
    · rcases Nat.lt_or_eq_of_le (Nat.le_of_lt_succ hj) with h | h
      · exact hsub j (ih.all j h hfj hN)
      · subst h; exact hi
    · rw [List.sum_append, ih.sum]
      simp
      omega
    · rcases List.mem_append.1 hd with h | h
      · exact ih.pos d h
      · have : d = c := by simpa using h
        omega
/-- How many places are full. -/
def cntN (full : Nat → Bool) (N : Nat) : Nat := (List.range N).countP full
theorem cntT_full {N : Nat} {S : List Bool} (hl : S.length = N) (h1 : ∀ x, at? S x = true → full x = true) (h2 : ∀ i, i < N → full i = true → at? S i = true) : cntT S = cntN full N := by
  have e : S = (List.range N).map full := by
    apply List.ext_getElem (by simpa using hl)
    intro i hi hj
    have hiN : i < N := by omega
    have a := h1 i
    have b := h2 i hiN
    simp only [at?, List.getD_eq_getElem?_getD, List.getElem?_eq_getElem hi, Option.getD_some] at a b
    simp only [List.getElem_map, List.getElem_range]
    cases hs : S[i] <;> cases hf : full i <;> simp_all
  rw [e]
  unfold cntT cntN
  rw [List.countP_map]
  rfl
theorem Isl.sums {N : Nat} {S : List Bool} {cs : List Nat} (h : Isl nb full N N S cs) : cs.sum = cntN full N ∧ ∀ c ∈ cs, 1 ≤ c := by
  have f := h.facts
  exact ⟨f.sum.trans (cntT_full f.len f.only (fun i hi hf => f.all i hi hf hi)), f.pos⟩
end

/-! Sums of positive numbers. -/
theorem sum_ge_len : ∀ {cs : List Nat}, (∀ c ∈ cs, 1 ≤ c) → cs.length ≤ cs.sum
  | [], _ => by simp
  | c :: cs, h => by
    have h1 := sum_ge_len (cs := cs) (fun d hd => h d (by simp [hd]))
    have h2 := h c (by simp)
    simp
    omega
theorem sum_ge_mem : ∀ {cs : List Nat} {c : Nat}, c ∈ cs → c ≤ cs.sum
  | d :: cs, c, h => by
    rcases List.mem_cons.1 h with h | h
    · simp; omega
    · have := sum_ge_mem h
      simp
      omega
theorem sum_le_mul {m : Nat} : ∀ {cs : List Nat}, (∀ c ∈ cs, c ≤ m) → cs.sum ≤ m * cs.length
  | [], _ => by simp
  | c :: cs, h => by
    have h1 := sum_le_mul (cs := cs) (fun d hd => h d (by simp [hd]))
    have h2 := h c (by simp)
    rw [List.sum_cons, List.length_cons, Nat.mul_add, Nat.mul_one]
    omega
end Go.Proofs.Ytcdipgkdbannmaa

/- A grid in which some places are marked and some are not has two neighbours of which one is marked. Plain. -/
namespace Go.Proofs.Ytcdipgkdbannmaa

/-- Neighbours in rows and in columns that are alike make all alike. -/
theorem grid_alike {W H : Nat} {f : Nat → Bool} (hr : ∀ i, i < W * H → i % W + 1 < W → f i = f (i + 1)) (hc : ∀ i, i < W * H → i / W + 1 < H → f i = f (i + W)) : ∀ i, i < W * H → f i = f 0 := by
  intro i hi
  have hW : 0 < W := by
    rcases Nat.eq_zero_or_pos W with h | h
    · subst h; simp at hi
    · exact h
  -- along the first row
  have row : ∀ r, ∀ x, r < H → x < W → f (r * W + x) = f (r * W) := by
    intro r x hr' hx
    induction x with
    | zero => rfl
    | succ x ih =>
      have h1 : r * W + x < W * H := by
        have : (r + 1) * W ≤ H * W := Nat.mul_le_mul_right _ hr'
        rw [Nat.add_mul, Nat.one_mul] at this
        rw [Nat.mul_comm W H]
        omega
      have h2 : (r * W + x) % W = x := by
        rw [Nat.add_comm, Nat.add_mul_mod_self_right]
        exact Nat.mod_eq_of_lt (by omega)
      have := hr (r * W + x) h1 (by rw [h2]; exact hx)
      rw [← Nat.add_assoc, ← this]
      exact ih (by omega)
  have col : ∀ r, r < H → f (r * W) = f 0 := by
    intro r hr'
    induction r with
    | zero => simp
    | succ r ih =>
      have h1 : r * W < W * H := by
        have : (r + 1) * W ≤ H * W := Nat.mul_le_mul_right _ (by omega)
        rw [Nat.add_mul, Nat.one_mul] at this
        rw [Nat.mul_comm W H]
        omega
      have h2 : (r * W) / W = r := Nat.mul_div_cancel _ hW
      have := hc (r * W) h1 (by rw [h2]; exact hr')
      rw [Nat.add_mul, Nat.one_mul, ← this]
      exact ih (by omega)
  have hd := Nat.div_add_mod i W
  have hlt : i / W < H := by
    rw [Nat.div_lt_iff_lt_mul hW, Nat.mul_comm]
    exact hi
  have e : i = i / W * W + i % W := by rw [Nat.mul_comm]; omega
  rw [e, row _ _ hlt (Nat.mod_lt _ hW), col _ hlt]
end Go.Proofs.Ytcdipgkdbannmaa
