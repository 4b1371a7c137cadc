/- The program's table of letters: 27 lists. -/
import Derived.Test.YtfblpibioegmkaaL2
import Derived.Test.YtfblpibioegmkaaPushK
namespace Go.Proofs.Ytfblpibioegmkaa
open Go.RowKit

theorem info.s64 : (Try.prog.info? 45).map (fun i => (i.zero, i.size, i.bytes)) = some (some (.slice none 0 0), 1, 24) := by kernel_rfl
/-- A list of k vectors, in new memory. -/
structure Tabl (w : World) (base : Nat) (v : Value) (k : Nat) (F : Nat → Nat → Int) (gs : List Nat) : Prop where
  len : gs.length = k
  own : w.ownsRow base 45 1 v k (gs.map (fun g => Value.slice (some ⟨g, 0, none⟩) 27 27))
  vec : ∀ i (h : i < gs.length), base ≤ gs[i] ∧ Vec w gs[i] (F i) ∧ v.ownBlock ≠ some gs[i]
/-- A table whose lists may be put. -/
structure Tab2 (w : World) (base b : Nat) (F : Nat → Nat → Int) (G : Nat → Nat) : Prop where
  lt : base ≤ b ∧ b < w.heap.size
  c : ∀ j, j < 27 → w.cell? ⟨b, j, none⟩ = some (.slice (some ⟨G j, 0, none⟩) 27 27)
  z : ∀ j, j < 27 → w.frozen? ⟨b, j, none⟩ = false
  vec : ∀ j, j < 27 → base ≤ G j ∧ Vec w (G j) (F j) ∧ G j ≠ b
theorem own_frozen {w : World} {base g n c : Nat} {e : TypeId} {xs : List Value} (hn : 0 < n) (h : w.ownsRow base e 1 (.slice (some ⟨g, 0, none⟩) n c) n xs) (j : Nat) : w.frozen? ⟨g, j, none⟩ = false := by
  rcases h.2 with ⟨_, h0⟩ | ⟨g', cap, cur, hv, hg, hh, hrest⟩
  · omega
  · injection hv with hA'
    injection hA' with hA'
    injection hA' with h1 h2
    subst h1
    unfold World.frozen?
    rw [hh]
    simp
theorem tab2_of {w : World} {base : Nat} {v : Value} {F : Nat → Nat → Int} {gs : List Nat} (h : Tabl w base v 27 F gs) : ∃ b c, v = .slice (some ⟨b, 0, none⟩) 27 c ∧ 27 ≤ c ∧ Tab2 w base b F (fun j => gs.getD j 0) := by
  have hl := h.len
  have hO := h.own
  rcases hO.2 with ⟨_, h0⟩ | ⟨b, cap, cur, rfl, hb, hh, hnc, hrest⟩
  · omega
  · refine ⟨b, cap, rfl, hnc, ⟨hb, (hO.lt b rfl).2⟩, fun j hj => ?_, fun j _ => own_frozen (by decide) hO j, fun j hj => ?_⟩
    · have := hO.cells (g := b) rfl j (.slice (some ⟨gs.getD j 0, 0, none⟩) 27 27) (by simp [hl, hj])
      rw [Addr.add_lit] at this
      simpa using this
    · have hj' : j < gs.length := by omega
      obtain ⟨h1, h2, h3⟩ := h.vec j hj'
      have e : gs.getD j 0 = gs[j] := by simp [hj']
      refine ⟨e ▸ h1, e ▸ h2, fun e2 => h3 ?_⟩
      show some b = some gs[j]
      rw [← e2, e]
theorem Tab2.keep {S : Nat → Prop} {w w' : World} {base b : Nat} {F : Nat → Nat → Int} {G : Nat → Nat} (h : Tab2 w base b F G) (k : Keep S w w') (hb : ¬ S b) (hS : ∀ j, j < 27 → ¬ S (G j)) : Tab2 w' base b F G :=
  ⟨⟨h.lt.1, Nat.lt_of_lt_of_le h.lt.2 k.size⟩, fun j hj => (World.cell?_of_block (w := w) (k.block b h.lt.2 hb)).trans (h.c j hj), fun j hj => (World.frozen?_of_block (w := w) (k.block b h.lt.2 hb)).trans (h.z j hj), fun j hj => ⟨(h.vec j hj).1, (h.vec j hj).2.1.keep k (hS j hj), (h.vec j hj).2.2⟩⟩
theorem Tab2.below {w w' : World} {base b : Nat} {F : Nat → Nat → Int} {G : Nat → Nat} (h : Tab2 w base b F G) (k : Below w.heap.size w w') : Tab2 w' base b F G := h.keep (Keep.of_below (S := fun _ => False) k) id (fun _ _ => id)
theorem Tab2.congr {w : World} {base b : Nat} {F F' : Nat → Nat → Int} {G : Nat → Nat} (h : Tab2 w base b F G) (e : ∀ i j, i < 27 → j < 27 → F i j = F' i j) : Tab2 w base b F' G :=
  ⟨h.lt, h.c, h.z, fun j hj => ⟨(h.vec j hj).1, (h.vec j hj).2.1.congr (e j · hj), (h.vec j hj).2.2⟩⟩
def setG (G : Nat → Nat) (i g : Nat) : Nat → Nat := fun j => if j = i then g else G j
def setF (F : Nat → Nat → Int) (i : Nat) (f : Nat → Int) : Nat → Nat → Int := fun j => if j = i then f else F j
theorem Tab2.put {w : World} {base b : Nat} {F : Nat → Nat → Int} {G : Nat → Nat} (h : Tab2 w base b F G) (i g : Nat) (f : Nat → Int) (hg : base ≤ g) (hf : Vec w g f) (hb : g ≠ b) :
    Tab2 (w.setCell ⟨b, i, none⟩ (.slice (some ⟨g, 0, none⟩) 27 27)) base b (setF F i f) (setG G i g) := by
  have kk := (Keep.refl (fun k => k = b) w).setCell (p := ⟨b, i, none⟩) (.inl rfl) (.slice (some ⟨g, 0, none⟩) 27 27)
  refine ⟨⟨h.lt.1, by simpa [World.setCell] using h.lt.2⟩, fun j hj => ?_, fun j hj => by simpa using h.z j hj, fun j hj => ?_⟩
  · unfold setG
    by_cases e : j = i
    · subst e
      rw [if_pos rfl]
      exact World.cell?_setCell_same _ _ _ (h.c j hj)
    · rw [if_neg e]
      exact (World.cell?_setCell_other _ _ _ _ (by simp <;> omega)).trans (h.c j hj)
  · unfold setG setF
    by_cases e : j = i
    · subst e
      rw [if_pos rfl, if_pos rfl]
      exact ⟨hg, hf.keep kk hb, hb⟩
    · rw [if_neg e, if_neg e]
      exact ⟨(h.vec j hj).1, (h.vec j hj).2.1.keep kk (h.vec j hj).2.2, (h.vec j hj).2.2⟩
/-- The rules' lists, put one after another. -/
def tabF : List RuleV → Nat → Nat → Int := List.foldl (fun F r => setF F (hdI r.1 - 65).toNat (cnt r.2.data.toList)) unitF
theorem tabF_snoc (l : List RuleV) (r : RuleV) : tabF (l ++ [r]) = setF (tabF l) (hdI r.1 - 65).toNat (cnt r.2.data.toList) := by
  unfold tabF; rw [List.foldl_append]; rfl
theorem byte_of {s : ByteArray} (h : s.size = 1) : s = ⟨#[s.data.toList.headD 0]⟩ := by
  obtain ⟨⟨l⟩⟩ := s
  match l, h with
  | [c], _ => rfl
theorem oneL_of {s : ByteArray} (h : ltrB s = true) : s = oneL (hdI s - 65).toNat ∧ (hdI s - 65).toNat < 26 ∧ 65 ≤ hdI s := by
  unfold ltrB ltr at h
  rw [Bool.and_eq_true, decide_eq_true_eq, Bool.and_eq_true, decide_eq_true_eq, decide_eq_true_eq] at h
  obtain ⟨h1, h2, h3⟩ := h
  refine ⟨?_, by omega, h2⟩
  rw [byte_of h1]
  unfold oneL
  congr 2
  generalize hc : s.data.toList.headD 0 = c
  have hI : hdI s = (c.toNat : Int) := by unfold hdI; rw [hc]
  have hI2 : hdI ⟨#[c]⟩ = (c.toNat : Int) := rfl
  rw [hI] at h2 h3
  rw [hI2]
  have : 65 + ((c.toNat : Int) - 65).toNat = c.toNat := by omega
  rw [this]
  simp
theorem less_one {a b : ByteArray} (ha : a.size = 1) (hb : b.size = 1) (h : leB a b = false) : hdI b < hdI a := by
  rw [byte_of ha, byte_of hb] at h ⊢
  generalize a.data.toList.headD 0 = x at *
  generalize b.data.toList.headD 0 = y at *
  unfold leB at h
  rw [Bool.or_eq_false_iff] at h
  show (y.toNat : Int) < x.toNat
  have e1 : (ByteArray.mk #[x]).toList = [x] := ByteArray.toList_eq _
  have e2 : (ByteArray.mk #[y]).toList = [y] := ByteArray.toList_eq _
  rw [e1, e2] at h
  obtain ⟨h1, h2⟩ := h
  have h1' : ¬ x < y := by
    intro hlt
    have : Op.bytesLess [x] [y] = true := by unfold Op.bytesLess; simp [hlt]
    rw [this] at h1
    cases h1
  have h2' : ¬ x = y := by
    intro e
    subst e
    simp at h2
  have h3 : ¬ x.toNat < y.toNat := fun h => h1' (UInt8.lt_iff_toNat_lt.2 h)
  have h4 : ¬ x.toNat = y.toNat := fun h => h2' (UInt8.toNat_inj.1 h)
  omega
theorem gram_at {s : ByteArray} {rs : List RuleV} (h : gramB s rs = true) {k : Nat} (hk : k < rs.length) : ltrB rs[k].1 = true := by
  unfold gramB rulesB at h
  rw [Bool.and_eq_true, List.all_eq_true] at h
  have h1 := h.1 k (List.mem_range.2 hk)
  unfold okAt at h1
  rw [Bool.and_eq_true, okAt_at hk] at h1
  have h2 := h1.1
  unfold ruleB at h2
  rw [Bool.and_eq_true] at h2
  exact h2.1
theorem ltrB_one' {s : ByteArray} (h : ltrB s = true) : s.size = 1 := by
  unfold ltrB at h
  rw [Bool.and_eq_true, decide_eq_true_eq] at h
  exact h.1
theorem gram_up {s : ByteArray} {rs : List RuleV} (h : gramB s rs = true) {k : Nat} (hk : k + 1 < rs.length) : hdI (rs[k]'(by omega)).1 < hdI rs[k + 1].1 := by
  have g1 := gram_at h hk
  have g0 := gram_at h (k := k) (by omega)
  unfold gramB rulesB at h
  rw [Bool.and_eq_true, List.all_eq_true] at h
  have h1 := h.1 (k + 1) (List.mem_range.2 hk)
  unfold okAt at h1
  rw [Bool.and_eq_true, Bool.or_eq_true, decide_eq_true_eq, okAt_at hk] at h1
  rcases h1.2 with h2 | h2
  · omega
  · have e : rs.getD (k + 1 - 1) (⟨#[]⟩, ⟨#[]⟩) = rs[k] := by
      have : k + 1 - 1 = k := by omega
      rw [this]
      exact okAt_at (by omega)
    rw [e, Bool.not_eq_true'] at h2
    exact less_one (ltrB_one' g1) (ltrB_one' g0) h2
theorem gram_lt {s : ByteArray} {rs : List RuleV} (h : gramB s rs = true) (i : Nat) : ∀ d (hd : i + d + 1 < rs.length), hdI (rs[i]'(by omega)).1 < hdI rs[i + d + 1].1
  | 0, hd => gram_up h hd
  | d + 1, hd => Int.lt_trans (gram_lt h i d (by omega)) (gram_up h (k := i + d + 1) hd)
theorem gram_one {s : ByteArray} {rs : List RuleV} (h : gramB s rs = true) {i j : Nat} (hi : i < rs.length) (hj : j < rs.length) (e : rs[i].1 = rs[j].1) : i = j := by
  rcases Nat.lt_trichotomy i j with h1 | h1 | h1
  · have := gram_lt h i (j - i - 1) (by omega)
    have e2 : i + (j - i - 1) + 1 = j := by omega
    simp only [e2] at this
    rw [e] at this
    omega
  · exact h1
  · have := gram_lt h j (i - j - 1) (by omega)
    have e2 : j + (i - j - 1) + 1 = i := by omega
    simp only [e2] at this
    rw [e] at this
    omega
theorem oneL_inj {i j : Nat} (hi : i < 26) (hj : j < 26) (h : oneL i = oneL j) : i = j := by
  have : UInt8.ofNat (65 + i) = UInt8.ofNat (65 + j) := by
    unfold oneL at h
    injection h with h
    simpa using h
  have := congrArg UInt8.toNat this
  simp at this
  omega
theorem tabF_at {s : ByteArray} {rs : List RuleV} (h : gramB s rs = true) (i : Nat) (hi : i < 26) : ∀ m, m ≤ rs.length →
    ((∀ k (hk : k < rs.length), k < m → rs[k].1 = oneL i → tabF (rs.take m) i = cnt rs[k].2.data.toList) ∧ ((∀ k (hk : k < rs.length), k < m → ¬ rs[k].1 = oneL i) → tabF (rs.take m) i = unitF i))
  | 0, _ => ⟨fun k _ hk => absurd hk (Nat.not_lt_zero _), fun _ => rfl⟩
  | m + 1, hm => by
    have ih := tabF_at h i hi m (by omega)
    have hml : m < rs.length := by omega
    have ht : rs.take (m + 1) = rs.take m ++ [rs[m]] := by simp
    rw [ht, tabF_snoc]
    obtain ⟨o1, o2, _⟩ := oneL_of (gram_at h hml)
    unfold setF
    by_cases e : i = (hdI rs[m].1 - 65).toNat
    · rw [if_pos e]
      have em : rs[m].1 = oneL i := by rw [e]; exact o1
      exact ⟨fun k hk _ hek => by
        have := gram_one h hk hml (by rw [hek, em])
        subst this
        rfl, fun hno => absurd em (hno m hml (by omega))⟩
    · rw [if_neg e]
      have em : ¬ rs[m].1 = oneL i := fun h2 => e (oneL_inj hi o2 (by rw [← o1, h2]))
      refine ⟨fun k hk hkm hek => ih.1 k hk ?_ hek, fun hno => ih.2 fun k hk hkm => hno k hk (by omega)⟩
      rcases Nat.lt_or_ge k m with h2 | h2
      · exact h2
      · obtain rfl : k = m := by omega
        exact absurd hek em
theorem tabF_26 {s : ByteArray} {rs : List RuleV} (h : gramB s rs = true) : ∀ m, m ≤ rs.length → tabF (rs.take m) 26 = unitF 26
  | 0, _ => rfl
  | m + 1, hm => by
    have hml : m < rs.length := by omega
    have ht : rs.take (m + 1) = rs.take m ++ [rs[m]] := by simp
    rw [ht, tabF_snoc]
    obtain ⟨o1, o2, _⟩ := oneL_of (gram_at h hml)
    unfold setF
    rw [if_neg (by omega)]
    exact tabF_26 h m (by omega)
theorem idxL_one {i : Nat} (hi : i < 26) : idxL (UInt8.ofNat (65 + i)) = i := by
  have : (UInt8.ofNat (65 + i)).toNat = 65 + i := by simp; omega
  unfold idxL
  rw [this, if_pos (by omega)]
  omega
theorem cnt_one {i : Nat} (hi : i < 26) (j : Nat) : cnt (oneL i).data.toList j = unitF i j := by
  show ((List.countP (fun c => idxL c == j) [UInt8.ofNat (65 + i)] : Nat) : Int) = _
  rw [List.countP_singleton, idxL_one hi]
  unfold unitF
  by_cases e : j = i
  · subst e; simp
  · have : (i == j) = false := by simp; omega
    rw [this, if_neg e]
    rfl
theorem tabF_mF {s : ByteArray} {rs : List RuleV} (h : gramB s rs = true) (i j : Nat) (hi : i < 27) : tabF rs i j = mF rs i j := by
  have htk : rs.take rs.length = rs := List.take_length
  unfold mF
  by_cases e : i < 26
  · rw [if_pos e]
    have ha := tabF_at h i e rs.length (Nat.le_refl _)
    rw [htk] at ha
    by_cases hex : ∃ k, ∃ hk : k < rs.length, rs[k].1 = oneL i
    · obtain ⟨k, hk, hek⟩ := hex
      rw [ha.1 k hk hk hek]
      rw [subT_yes hk hek (fun j hj hej => by
        have := gram_one h (by omega) hk (hej.trans hek.symm)
        omega)]
    · have hno : ∀ k (hk : k < rs.length), ¬ rs[k].1 = oneL i := fun k hk he => hex ⟨k, hk, he⟩
      rw [ha.2 (fun k hk _ => hno k hk), subT_no hno, cnt_one e]
  · obtain rfl : i = 26 := by omega
    have := tabF_26 h rs.length (Nat.le_refl _)
    rw [htk] at this
    rw [if_neg e, this]
end Go.Proofs.Ytfblpibioegmkaa
