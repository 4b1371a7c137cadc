/- PutRule: the program's side. -/
import Derived.Test.YtfblpibioegmkaaPE
import Derived.Test.YtfblpibioegmkaaSGLaw
import Derived.Deep.RegionWith
namespace Go.Proofs.Ytfblpibioegmkaa
open Go.RowKit

theorem flat_get : ∀ {rs : List RuleV} {i : Nat} {r : RuleV}, rs[i]? = some r → (rs.flatMap rv)[i * 2]? = some (.string r.1) ∧ (rs.flatMap rv)[i * 2 + 1]? = some (.string r.2)
  | [], i, r, h => by simp at h
  | x :: l, 0, r, h => by
    obtain rfl : x = r := by simpa using h
    simp [rv]
  | x :: l, i + 1, r, h => by
    obtain ⟨h1, h2⟩ := flat_get (rs := l) (i := i) (r := r) (by simpa using h)
    have e : (i + 1) * 2 = i * 2 + 1 + 1 := by omega
    rw [List.flatMap_cons, e]
    exact ⟨by simpa [rv] using h1, by simpa [rv] using h2⟩
theorem flat_set : ∀ (rs : List RuleV) (i : Nat) (r : RuleV), (rs.set i r).flatMap rv = ((rs.flatMap rv).set (i * 2) (.string r.1)).set (i * 2 + 1) (.string r.2)
  | [], i, r => by simp
  | x :: l, 0, r => by simp [rv]
  | x :: l, i + 1, r => by
    have ih := flat_set l i r
    have e : (i + 1) * 2 = i * 2 + 1 + 1 := by omega
    rw [List.set_cons_succ, List.flatMap_cons, ih, List.flatMap_cons, e]
    simp [rv]
theorem own_rrd {w : World} {B : Nat} {v : Value} {l : List RuleV} (h : w.ownsRow B 55 2 v l.length (l.flatMap rv)) : ∃ A c, v = .slice A l.length c ∧ RRd w A l := by
  rcases h.2 with ⟨rfl, h0⟩ | ⟨g, cap, cur, rfl, hB, hg, _⟩
  · have : l = [] := List.length_eq_zero_iff.1 h0
    subst this
    exact ⟨none, 0, rfl, fun i r h => by simp at h⟩
  · refine ⟨_, _, rfl, fun i r hi => ⟨g, 0, rfl, (Array.getElem?_eq_some_iff.1 hg).1, ?_⟩⟩
    have hc := h.cells (g := g) rfl
    obtain ⟨e0, e1⟩ := flat_get hi
    have c0 := hc _ _ e0
    have c1 := hc _ _ e1
    rw [Addr.add_lit] at c0 c1
    exact ⟨c0, c1⟩
theorem le_one {a b : ByteArray} (ha : a.size = 1) (hb : b.size = 1) : leB a b = decide (hdI a ≤ hdI b) := by
  obtain ⟨h1, h2⟩ := cmp_one ha hb
  have e : leB a b = decide (cmpS a b ≤ 0) := by
    unfold leB cmpS lessS
    cases Op.bytesLess a.toList b.toList
    · cases (a.toList == b.toList) <;> rfl
    · rfl
  rw [e, decide_eq_decide]
  omega
theorem rule_size {r : RuleV} (h : ruleB r = true) : r.1.size = 1 := by
  unfold ruleB ltrB at h
  simp only [Bool.and_eq_true, decide_eq_true_eq] at h
  exact h.1.1
theorem gram_parts {s : ByteArray} {rs : List RuleV} (h : gramB s rs = true) : rs.length ≤ 8 ∧ (∀ r ∈ rs, r.1.size = 1) ∧ Srt (fun x : RuleV => hdI x.1) rs := by
  unfold gramB rulesB at h
  simp only [Bool.and_eq_true, decide_eq_true_eq, List.all_eq_true, List.mem_range] at h
  obtain ⟨h1, _, h2⟩ := h
  have hr : ∀ k (hk : k < rs.length), ruleB rs[k] = true := fun k hk => by
    have := h1 k hk
    unfold okAt at this
    rw [okAt_at hk] at this
    simp only [Bool.and_eq_true] at this
    exact this.1
  have hs : ∀ k (hk : k < rs.length), rs[k].1.size = 1 := fun k hk => rule_size (hr k hk)
  have ha : ∀ k (hk : k + 1 < rs.length), hdI (rs[k]'(by omega)).1 < hdI rs[k + 1].1 := fun k hk => by
    have := h1 (k + 1) hk
    unfold okAt at this
    rw [okAt_at hk, show k + 1 - 1 = k from rfl, okAt_at (show k < rs.length by omega), le_one (hs _ _) (hs _ _)] at this
    simp at this
    omega
  refine ⟨h2, fun r hr => ?_, ?_⟩
  · obtain ⟨k, hk, e⟩ := List.getElem_of_mem hr
    rw [← e]
    exact hs k hk
  · refine List.pairwise_iff_getElem.2 ?_
    intro i j hi hj hij
    obtain ⟨d, rfl⟩ : ∃ d, j = i + 1 + d := ⟨j - i - 1, by omega⟩
    clear hij
    induction d with
    | zero => exact ha i hj
    | succ d ih => exact Int.lt_trans (ih (by omega)) (ha (i + 1 + d) hj)
/-- What putting a rule gives. -/
def putV (s : ByteArray) (rs : List RuleV) (r : RuleV) : Option (List RuleV) :=
  if gramB s rs && ruleB r then (if gramB s (putL (fun x : RuleV => hdI x.1) r rs) then some (putL (fun x : RuleV => hdI x.1) r rs) else none) else none
def PutR (w : World) (s : ByteArray) (o : Option (List RuleV)) (e : Ending) (w' : World) : Prop :=
  Below w.heap.size w w' ∧ match o with
  | none => e = .returned (.tuple #[.agg #[.string ⟨#[]⟩, .slice none 0 0], .bool false])
  | some l => ∃ v, e = .returned (.tuple #[.agg #[.string s, v], .bool true]) ∧ w'.ownsRow w.heap.size 55 2 v l.length (l.flatMap rv)
theorem far_cell {w : World} {p q i j : Nat} {v : Value} (h : q ≠ p) : (w.setCell ⟨q, j, none⟩ v).cell? ⟨p, i, none⟩ = w.cell? ⟨p, i, none⟩ :=
  World.cell?_setCell_other _ _ _ _ (fun e => h (congrArg Addr.block e))
/-- A rule in a box. -/
structure RBox (w : World) (p : Nat) (r : RuleV) : Prop where
  lt : p < w.heap.size
  c0 : w.cell? ⟨p, 0, none⟩ = some (.string r.1)
  c1 : w.cell? ⟨p, 1, none⟩ = some (.string r.2)
theorem RBox.below {w w' : World} {p : Nat} {r : RuleV} (h : RBox w p r) (k : Below w.heap.size w w') : RBox w' p r :=
  ⟨Nat.lt_of_lt_of_le h.lt k.size, (k.cell h.lt).trans h.c0, (k.cell h.lt).trans h.c1⟩
theorem rbox_new (w : World) (r : RuleV) (t : TypeId) (p : Nat) (hp : p = w.heap.size) : RBox (w.alloc (.cells #[.string r.1, .string r.2] t)) p r := by
  subst hp
  exact ⟨by simp, by simp, by simp⟩
/-- A cell that may be written. -/
def Can (w : World) (p : Nat) : Prop := p < w.heap.size ∧ (∃ v, w.cell? ⟨p, 0, none⟩ = some v) ∧ (∃ v, w.cell? ⟨p, 1, none⟩ = some v) ∧ w.frozen? ⟨p, 0, none⟩ = false ∧ w.frozen? ⟨p, 1, none⟩ = false
theorem Can.below {w w' : World} {p : Nat} (h : Can w p) (k : Below w.heap.size w w') : Can w' p := by
  obtain ⟨h0, ⟨v, h1⟩, ⟨u, h2⟩, h3, h4⟩ := h
  exact ⟨Nat.lt_of_lt_of_le h0 k.size, ⟨v, (k.cell h0).trans h1⟩, ⟨u, (k.cell h0).trans h2⟩, (k.frozen (p := ⟨p, 0, none⟩) h0).trans h3, (k.frozen (p := ⟨p, 1, none⟩) h0).trans h4⟩
theorem Can.read {w : World} {p : Nat} (h : Can w p) (x y : Value) : ((w.setCell ⟨p, 0, none⟩ x).setCell ⟨p, 1, none⟩ y).cell? ⟨p, 0, none⟩ = some x ∧ ((w.setCell ⟨p, 0, none⟩ x).setCell ⟨p, 1, none⟩ y).cell? ⟨p, 1, none⟩ = some y := by
  obtain ⟨_, ⟨v, h1⟩, ⟨u, h2⟩, _⟩ := h
  constructor
  · rw [World.cell?_setCell_other _ _ _ _ (by simp)]
    exact World.cell?_setCell_same _ _ _ h1
  · exact World.cell?_setCell_same _ _ _ ((World.cell?_setCell_other _ _ _ _ (by simp)).trans h2)
theorem Can.set {w : World} {p : Nat} (h : Can w p) (a : Addr) (x : Value) : Can (w.setCell a x) p := by
  obtain ⟨h0, ⟨v, h1⟩, ⟨u, h2⟩, h3, h4⟩ := h
  refine ⟨by simpa [World.setCell] using h0, ?_, ?_, by simpa using h3, by simpa using h4⟩
  · by_cases e : a = ⟨p, 0, none⟩
    · subst e; exact ⟨x, World.cell?_setCell_same _ _ _ h1⟩
    · exact ⟨v, (World.cell?_setCell_other _ _ _ _ e).trans h1⟩
  · by_cases e : a = ⟨p, 1, none⟩
    · subst e; exact ⟨x, World.cell?_setCell_same _ _ _ h2⟩
    · exact ⟨u, (World.cell?_setCell_other _ _ _ _ e).trans h2⟩
theorem can_new (w : World) (u v : Value) (t : TypeId) (p : Nat) (hp : p = w.heap.size) : Can (w.alloc (.cells #[u, v] t)) p := by
  subst hp
  exact ⟨by simp, ⟨u, by simp⟩, ⟨v, by simp⟩, by simp, by simp⟩
theorem own_le {w : World} {base base' size n : Nat} {e : TypeId} {v : Value} {xs : List Value} (h : w.ownsRow base e size v n xs) (hb : base' ≤ base) : w.ownsRow base' e size v n xs := by
  refine ⟨h.1, ?_⟩
  rcases h.2 with h0 | ⟨g, cap, cur, e, h1, h2⟩
  · exact .inl h0
  · exact .inr ⟨g, cap, cur, e, Nat.le_trans hb h1, h2⟩
theorem own_step {w w' : World} {base size n : Nat} {e : TypeId} {v : Value} {xs : List Value} (h : w.ownsRow base e size v n xs) (k : Below w.heap.size w w') : w'.ownsRow base e size v n xs := by
  refine ⟨h.1, ?_⟩
  rcases h.2 with h0 | ⟨g, cap, cur, e, h1, h2, h3⟩
  · exact .inl h0
  · exact .inr ⟨g, cap, cur, e, h1, (k.block g (Array.getElem?_eq_some_iff.1 h2).1).trans h2, h3⟩
theorem Box.grown {w w' : World} {row : Option Nat} {p : Nat} {s : ByteArray} {A : Option Addr} {n c : Nat} (h : Box w p s A n c) (k : w.grownBy w' row) (hn : row ≠ some p) : Box w' p s A n c :=
  ⟨Nat.lt_of_lt_of_le h.lt k.size, (World.cell?_of_block (k.block p h.lt (fun e => hn e.symm))).trans h.c0, (World.cell?_of_block (k.block p h.lt (fun e => hn e.symm))).trans h.c1⟩
theorem Can.grown {w w' : World} {row : Option Nat} {p : Nat} (h : Can w p) (k : w.grownBy w' row) (hn : row ≠ some p) : Can w' p := by
  obtain ⟨h0, ⟨v, h1⟩, ⟨u, h2⟩, h3, h4⟩ := h
  have hb := k.block p h0 (fun e => hn e.symm)
  exact ⟨Nat.lt_of_lt_of_le h0 k.size, ⟨v, (World.cell?_of_block (w := w) (a := ⟨p, 0, none⟩) hb).trans h1⟩, ⟨u, (World.cell?_of_block (w := w) (a := ⟨p, 1, none⟩) hb).trans h2⟩,
    (World.frozen?_of_block (w := w) (a := ⟨p, 0, none⟩) hb).trans h3, (World.frozen?_of_block (w := w) (a := ⟨p, 1, none⟩) hb).trans h4⟩
/-- In the midst of putting a rule: the copy in its box. -/
structure PutM (w w7 : World) (p : Nat) (s : ByteArray) (rs : List RuleV) (r : RuleV) (A6 : Option Addr) (c6 : Nat) : Prop where
  box : Box w7 p s A6 rs.length c6
  can : Can w7 p
  rbox : RBox w7 (w.heap.size + 1) r
  res : Can w7 (w.heap.size + 1 + 1)
  own : w7.ownsRow (w.heap.size + 1 + 1 + 1) 55 2 (.slice A6 rs.length c6) rs.length (rs.flatMap rv)
  ne : (Value.slice A6 rs.length c6).ownBlock ≠ some p
  ge : w.heap.size + 1 + 1 < p
  below : Below w.heap.size w w7
/-- .. and behind the change. -/
structure PutN (w w10 : World) (p : Nat) (s : ByteArray) (l : List RuleV) (n : Nat) (A : Option Addr) (c : Nat) (r : RuleV) (rs : List RuleV) : Prop where
  box : Box w10 p s A n c
  res : Can w10 (w.heap.size + 1 + 1)
  own : w10.ownsRow (w.heap.size + 1 + 1 + 1) 55 2 (.slice A n c) n (l.flatMap rv)
  below : Below w.heap.size w w10
  ge : w.heap.size + 1 + 1 < p
  len : n = l.length
  put : putL (fun x : RuleV => hdI x.1) r rs = l
theorem putL_mem {h : RuleV → Int} {r x : RuleV} : ∀ {l : List RuleV}, x ∈ putL h r l → x = r ∨ x ∈ l
  | [], hx => .inl (by simpa [putL] using hx)
  | y :: l, hx => by
    unfold putL at hx
    split at hx
    · rcases List.mem_cons.1 hx with e | e
      · exact .inr (by simp [e])
      · rcases putL_mem e with e | e
        · exact .inl e
        · exact .inr (by simp [e])
    · split at hx
      · rcases List.mem_cons.1 hx with e | e
        · exact .inl e
        · exact .inr (by simp [e])
      · rcases List.mem_cons.1 hx with e | e
        · exact .inl e
        · exact .inr e
set_option maxRecDepth 100000 in
set_option maxHeartbeats 4000000 in
theorem implPut_any (s : ByteArray) (A : Option Addr) (c : Nat) (rs : List RuleV) (r : RuleV) (w : World) (hA : RRd w A rs) (hn : rs.length ≤ maxLen) (hs : s.size ≤ maxLen) (hz : ∀ r ∈ rs, r.1.size ≤ maxLen ∧ r.2.size ≤ maxLen) (z1 : r.1.size ≤ maxLen) (z2 : r.2.size ≤ maxLen) :
    Calls Try.prog 46 #[.agg #[.string s, .slice A rs.length c], .agg #[.string r.1, .string r.2]] w (PutR w s (putV s rs r)) := by
  obtain ⟨w1, hw1⟩ : ∃ w1, w1 = w.alloc (.cells #[.string s, .slice A rs.length c] 25) := ⟨_, rfl⟩
  obtain ⟨w2, hw2⟩ : ∃ w2, w2 = w1.alloc (.cells #[.string r.1, .string r.2] 55) := ⟨_, rfl⟩
  obtain ⟨w3, hw3⟩ : ∃ w3, w3 = w2.alloc (.cells #[.string ⟨#[]⟩, .slice none 0 0] 25) := ⟨_, rfl⟩
  have k1 : Below w.heap.size w w1 := by rw [hw1]; exact below_alloc _ _
  have k2 : Below w1.heap.size w1 w2 := by rw [hw2]; exact below_alloc _ _
  have k3 : Below w2.heap.size w2 w3 := by rw [hw3]; exact below_alloc _ _
  have K3 : Below w.heap.size w w3 := Below.step (Below.step k1 k2) k3
  have e1 : w1.heap.size = w.heap.size + 1 := by rw [hw1]; simp
  have e2 : w2.heap.size = w.heap.size + 1 + 1 := by rw [hw2, ← e1]; simp
  have B3 : Box w3 w.heap.size s A rs.length c := ((by rw [hw1]; exact box_new _ _ _ _ _ _ _ rfl : Box w1 w.heap.size s A rs.length c).below k2).below k3
  have R3 : RBox w3 (w.heap.size + 1) r := (by rw [hw2]; exact rbox_new _ _ _ _ e1.symm : RBox w2 (w.heap.size + 1) r).below k3
  have Z3 : Can w3 (w.heap.size + 1 + 1) := by rw [hw3]; exact can_new _ _ _ _ _ e2.symm
  have HW : Hid (w3 = ((w.alloc (.cells #[.string s, .slice A rs.length c] 25)).alloc (.cells #[.string r.1, .string r.2] 55)).alloc (.cells #[.string ⟨#[]⟩, .slice none 0 0] 25)) := Lib.hid (by rw [hw3, hw2, hw1])
  clear hw1 hw2 hw3 k1 k2 k3 e1 e2
  go_enter Try.func46, Try.ntmps46
  go_wp2_with fail
  rw [← HW.out]
  clear HW
  refine (implVG_any s A c rs _ (hA.below K3) hn hs hz).mono ?_
  rintro e w4 ⟨rfl, k4⟩
  obtain ⟨b4_, b40, b41⟩ := B3.below k4
  obtain ⟨r4_, r40, r41⟩ := R3.below k4
  have Z4 := Z3.below k4
  have K4 := Below.step K3 k4
  clear k4 K3 B3 R3 Z3
  cases hG : gramB s rs
  · obtain ⟨q0, q1⟩ := Z4.read (.string ⟨#[]⟩) (.slice none 0 0)
    obtain ⟨z_, ⟨v0, y0⟩, ⟨v1, y1⟩, zf0, zf1⟩ := Z4
    have HQ := Lib.hid (And.intro q0 q1)
    clear q0 q1
    have HV : Hid (putV s rs r = none) := Lib.hid (by unfold putV; rw [hG]; rfl)
    clear hG
    go_wp2
    obtain ⟨q0, q1⟩ := HQ.out
    refine bodyPost_ret (v := .tuple #[.agg #[.string ⟨#[]⟩, .slice none 0 0], .bool false]) (by simp [results, Try.results46, go_sem, q0, q1]) rfl ?_
    rw [HV.out]
    exact ⟨(K4.setCell (by simp only []; omega) _).setCell (by simp only []; omega) _, rfl⟩
  · go_wp2_with fail
    refine (isRule_any r _ z1 z2).mono ?_
    rintro e w5 ⟨rfl, k5⟩
    obtain ⟨b5_, b50, b51⟩ := (Box.mk b4_ b40 b41).below k5
    obtain ⟨r5_, r50, r51⟩ := (RBox.mk r4_ r40 r41).below k5
    have Z5 := Z4.below k5
    have hA5 := (hA.below K4).below k5
    have K5 := Below.step K4 k5
    clear k5 K4 b4_ b40 b41 r4_ r40 r41 Z4 hA
    cases hR : ruleB r
    · obtain ⟨q0, q1⟩ := Z5.read (.string ⟨#[]⟩) (.slice none 0 0)
      obtain ⟨z_, ⟨v0, y0⟩, ⟨v1, y1⟩, zf0, zf1⟩ := Z5
      have HQ := Lib.hid (And.intro q0 q1)
      clear q0 q1
      have HV : Hid (putV s rs r = none) := Lib.hid (by unfold putV; rw [hG, hR]; rfl)
      clear hG hR
      go_wp2
      obtain ⟨q0, q1⟩ := HQ.out
      refine bodyPost_ret (v := .tuple #[.agg #[.string ⟨#[]⟩, .slice none 0 0], .bool false]) (by simp [results, Try.results46, go_sem, q0, q1]) rfl ?_
      rw [HV.out]
      exact ⟨(K5.setCell (by simp only []; omega) _).setCell (by simp only []; omega) _, rfl⟩
    · obtain ⟨hn8, hone, hsrt⟩ := gram_parts hG
      have HG := Lib.hid (And.intro hG hR)
      have HP := Lib.hid (And.intro hone hsrt)
      have hr1 := rule_size hR
      have HR1 := Lib.hid hr1
      clear hG hR hone hsrt hr1
      go_wp2_with fail
      have s5 := And.intro b50 b51
      go_region_held3 (fun w' => w'.cell? ⟨w.heap.size, 0, none⟩ = some (.string s) ∧ w'.cell? ⟨w.heap.size, 1, none⟩ = some (.slice A rs.length c))
        (first | (exact s5) | (exact s6) | (exact And.intro ((far_cell (by omega)).trans ((far_cell (by omega)).trans s6.1)) ((far_cell (by omega)).trans ((far_cell (by omega)).trans s6.2))) | go_keep)
        (first | (go_at_call 72; refine (clone_any A c rs _ (by first | exact hA5 | exact hA5.below (below_alloc _ _).drew | exact hA5.below (Below.refl _ _).drew | exact hA5.below (below_alloc _ _)) hn8).mono ?_; rintro e w6 ⟨v, rfl, ho6, k6⟩; obtain ⟨A6, c6, rfl, hR6⟩ := own_rrd ho6; have HO6 := Lib.hid ho6; clear ho6 hR6; have Q6 : Below w5.heap.size w5 w6 := (by first | exact (Below.refl _ _).drew.trans k6 | exact Below.step (below_alloc _ _).drew k6); have X6 := (Box.mk b5_ b50 b51).below Q6; have s6 := And.intro X6.c0 X6.c1; obtain ⟨hc6, hf6⟩ := cells_below k6; have z6 := k6.size; (try simp only [World.size_drew] at z6); have HK6 := Lib.hid k6; clear k6))
      all_goals
        first
        | (obtain ⟨p, hp⟩ : ∃ p, p = w6.heap.size := ⟨_, rfl⟩
           obtain ⟨w7, hw7⟩ : ∃ w7, w7 = w6.alloc (.cells #[.string s, .slice A6 rs.length c6] 25) := ⟨_, rfl⟩
           have M : PutM w w7 p s rs r A6 c6 := by
             have k7 : Below w6.heap.size w6 w7 := by rw [hw7]; exact below_alloc _ _
             have hlt := HO6.out.lt
             exact ⟨by rw [hw7]; exact box_new _ _ _ _ _ _ _ hp, by rw [hw7]; exact can_new _ _ _ _ _ hp, ((RBox.mk r5_ r50 r51).below Q6).below k7, (Z5.below Q6).below k7, by rw [hw7]; exact (own_le HO6.out (by have := Z5.1; show _ ≤ w5.heap.size; omega)).alloc _,
               fun e => by have := (hlt p e).2; omega, by have := Z5.1; omega, Below.step (Below.step K5 Q6) k7⟩
           rw [← hw7, ← hp]
           clear hw7 hp)
        | (obtain ⟨p, hp⟩ : ∃ p, p = w5.heap.size := ⟨_, rfl⟩
           have C6 : Can w6 p := Can.below (w := (w5.alloc (.cells #[.string ⟨#[]⟩, .slice none 0 0] 25)).drew) (by have t := can_new w5 (.string ⟨#[]⟩) (.slice none 0 0) 25 p hp; exact t) HK6.out
           obtain ⟨w7, hw7⟩ : ∃ w7, w7 = (w6.setCell ⟨w5.heap.size, 0, none⟩ (.string s)).setCell ⟨w5.heap.size, 1, none⟩ (.slice A6 rs.length c6) := ⟨_, rfl⟩
           have M : PutM w w7 p s rs r A6 c6 := by
             have k7 : Below w5.heap.size w6 w7 := by rw [hw7]; exact ((Below.refl _ _).setCell (by simp only []; omega) _).setCell (by simp only []; omega) _
             have Q7 : Below w5.heap.size w5 w7 := Q6.trans k7
             have hlt := HO6.out.lt
             have hsz : (w5.alloc (.cells #[.string ⟨#[]⟩, .slice none 0 0] 25)).drew.heap.size = p + 1 := by rw [hp]; exact World.size_alloc _ _
             rw [hsz] at hlt
             obtain ⟨q0, q1⟩ := C6.read (.string s) (.slice A6 rs.length c6)
             have S7 : Can w7 p := by rw [hw7, ← hp]; exact (C6.set _ _).set _ _
             rw [← hp] at hw7
             rw [← hw7] at q0 q1
             exact ⟨⟨S7.1, q0, q1⟩, S7, (RBox.mk r5_ r50 r51).below Q7, Z5.below Q7, by rw [hw7]; exact own_le (base := p + 1) (ownsRow_setCell_below (ownsRow_setCell_below (own_le HO6.out (Nat.le_of_eq hsz.symm)) (Nat.lt_succ_self p) _) (Nat.lt_succ_self p) _) (by have := Z5.1; omega),
               fun e => by have := (hlt p e).1; omega, by have := Z5.1; omega, Below.step K5 Q7⟩
           rw [← hw7, ← hp]
           clear hw7 hp C6)
        clear hc6 hf6 z6 HK6 HO6 Q6 X6 s6 s5 K5 Z5 hA5 b5_ b50 b51 r5_ r50 r51
        clear w1 w2 w3 w4
        obtain ⟨⟨b_, b0, b1⟩, CP, ⟨r_, r0, r1⟩, ZC, OW, NE, GE, K7⟩ := M
        obtain ⟨A6', c6', eA, hA7⟩ := own_rrd OW
        injection eA with eA1 eAn eA2
        clear eAn
        subst eA1; subst eA2
        have HO7 := Lib.hid OW
        have HNE := Lib.hid NE
        clear OW NE
        go_wp2_with fail
        refine (search_any A6 c6 rs r _ hA7 hn8 HP.out.1 HR1.out HP.out.2).mono ?_
        rintro e w8 ⟨i, b, rfl, hi, hbef, hyes, hno, k8⟩
        have HS := Lib.hid (And.intro hbef (And.intro hyes hno))
        clear hbef hyes hno
        obtain ⟨b_, b0, b1⟩ := (Box.mk b_ b0 b1).below k8
        obtain ⟨r_, r0, r1⟩ := (RBox.mk r_ r0 r1).below k8
        have CP := CP.below k8
        have ZC := ZC.below k8
        have HO8 := Lib.hid (own_step HO7.out k8)
        have K8 := Below.step K7 k8
        clear k8 K7 HO7 hA7
        cases b
        · obtain ⟨hbef, _, hno⟩ := HS.out
          have HL : Hid (putL (fun x : RuleV => hdI x.1) r rs = rs.take i ++ r :: rs.drop i) := Lib.hid (putL_ins (h := fun x : RuleV => hdI x.1) hi hbef (fun t ht hit => hno rfl t ht hit))
          clear hbef hno HS
          have hB8 : w.heap.size + 1 + 1 + 1 ≤ w8.heap.size := by omega
          have hlt8 := HO8.out.lt
          have h11 := fun e : (Value.slice A6 rs.length c6).ownBlock = some (w.heap.size + 1) => (by have := (hlt8 _ e).1; omega : False)
          have h12 := fun e : (Value.slice A6 rs.length c6).ownBlock = some (w.heap.size + 1 + 1) => (by have := (hlt8 _ e).1; omega : False)
          have h13 := fun e : (Value.slice A6 rs.length c6).ownBlock = some w8.heap.size => (by have := (hlt8 _ e).2; omega : False)
          have HN := Lib.hid (And.intro h11 (And.intro h12 h13))
          clear h11 h12 h13 hlt8
          go_wp2_with fail
          obtain ⟨v8, hv8⟩ : ∃ v8, v8 = w8.alloc (.cells #[.string r.1, .string r.2] 55) := ⟨_, rfl⟩
          have kx : Below w8.heap.size w8 v8 := by rw [hv8]; exact below_alloc _ _
          have hn8' : v8.heap[w8.heap.size]? = some (.cells (rv r).toArray 55 (0, 0)) := by rw [hv8]; exact heap_alloc_new w8 _
          have hs8 : v8.heap.size = w8.heap.size + 1 := by rw [hv8]; simp
          rw [← hv8]
          clear hv8
          obtain ⟨b_, b0, b1⟩ := (Box.mk b_ b0 b1).below kx
          have CP := CP.below kx
          have ZC := ZC.below kx
          have HO9 := Lib.hid (own_step HO8.out kx)
          have K9 := Below.step K8 kx
          refine (insert_any v8 (w.heap.size + 1 + 1 + 1) i w8.heap.size 55 _ rs r HO9.out hn8 hi hn8' (fun e => HN.out.2.2 e) (by omega)).mono ?_
          rintro e w9 ⟨v', rfl, ho9, hg9, hor9⟩
          obtain ⟨l, hl⟩ : ∃ l, l = rs.take i ++ r :: rs.drop i := ⟨_, rfl⟩
          have hll : rs.length + 1 = l.length := by rw [hl]; simp; omega
          rw [← hl, hll] at ho9
          have HL2 : Hid (putL (fun x : RuleV => hdI x.1) r rs = l) := Lib.hid (by rw [HL.out, hl])
          obtain ⟨A9, c9, rfl, _⟩ := own_rrd ho9
          have k9 : Below (w.heap.size + 1 + 1 + 1) v8 w9 := own_below HO9.out hg9 rfl (by omega)
          obtain ⟨b_, b0, b1⟩ := (Box.mk b_ b0 b1).grown hg9 HNE.out
          have CP := CP.grown hg9 HNE.out
          have ZC := ZC.grown hg9 HN.out.2.1
          have K10 : Below w.heap.size w w9 := K9.trans (k9.mono (by omega))
          have HO10 := Lib.hid ho9
          have hne9 : Hid ((Value.slice A9 l.length c9).ownBlock ≠ some p) := Lib.hid (fun e => by
            rcases hor9 p e with h | h
            · exact HNE.out h
            · have := b_
              omega)
          obtain ⟨_, ⟨y0, cy0⟩, ⟨y1, cy1⟩, yf0, yf1⟩ := CP
          clear hl hll hn8' hs8 ho9 hor9 hg9 k9 kx HO9 K9 HL HN hB8 HO8 K8
          go_wp2_with fail
          obtain ⟨w10, hw10⟩ : ∃ w10, w10 = w9.setCell ⟨p, 1, none⟩ (.slice A9 l.length c9) := ⟨_, rfl⟩
          have N : PutN w w10 p s l l.length A9 c9 r rs := by
            refine ⟨⟨by rw [hw10]; simpa [World.setCell] using b_, by rw [hw10]; exact (World.cell?_setCell_other _ _ _ _ (by simp)).trans b0, by rw [hw10]; exact World.cell?_setCell_same _ _ _ b1⟩, by rw [hw10]; exact ZC.set _ _, by rw [hw10]; exact ownsRow_setCell_other HO10.out (fun e => hne9.out e) _, by rw [hw10]; exact K10.setCell (by simp only []; omega) _, by omega, rfl, HL2.out⟩
          rw [← hw10]
          clear hw10 HL2 HO10 hne9 K10
          obtain ⟨⟨p_, p0, p1⟩, ZC, OW, K10, GE10, hlen, hput⟩ := N
          have hl9 : (l).length ≤ 9 := by rw [← hput]; have := putL_len (h := fun x : RuleV => hdI x.1) (r := r) (l := rs); omega
          have hzl : ∀ x ∈ l, x.1.size ≤ maxLen ∧ x.2.size ≤ maxLen := fun x hx => by
            rw [← hput] at hx
            rcases putL_mem hx with e | e
            · rw [e]; exact ⟨z1, z2⟩
            · exact hz x e
          obtain ⟨A', c', eA, hRd⟩ := own_rrd (w := w10) (l := l) (by rw [← hlen]; exact OW)
          injection eA with eA1 eAn eA2
          clear eAn
          subst eA1; subst eA2
          have V := implVG_any s A9 c9 (l) w10 hRd (by unfold maxLen; omega) hs hzl
          rw [← hlen] at V
          refine V.mono ?_
          clear V
          rintro e w11 ⟨rfl, k11⟩
          obtain ⟨p_, p0, p1⟩ := (Box.mk p_ p0 p1).below k11
          have ZC := ZC.below k11
          have HO11 := Lib.hid (own_step OW k11)
          have K11 := Below.step K10 k11
          clear k11 K10 OW hRd hlen hl9 hzl
          cases hV : gramB s (l)
          · have HV : Hid (putV s rs r = none) := Lib.hid (by unfold putV; rw [HG.out.1, HG.out.2, hput, hV]; rfl)
            clear hV hput
            obtain ⟨q0, q1⟩ := ZC.read (.string ⟨#[]⟩) (.slice none 0 0)
            obtain ⟨z_, ⟨x0, u0⟩, ⟨x1, u1⟩, zf0, zf1⟩ := ZC
            have HQ := Lib.hid (And.intro q0 q1)
            clear q0 q1
            go_wp2
            obtain ⟨q0, q1⟩ := HQ.out
            refine bodyPost_ret (v := .tuple #[.agg #[.string ⟨#[]⟩, .slice none 0 0], .bool false]) (by simp [results, Try.results46, go_sem, q0, q1]) rfl ?_
            rw [HV.out]
            exact ⟨(K11.setCell (by simp only []; omega) _).setCell (by simp only []; omega) _, rfl⟩
          · have HV : Hid (putV s rs r = some (l)) := Lib.hid (by unfold putV; rw [HG.out.1, HG.out.2, hput, hV]; rfl)
            clear hV hput
            obtain ⟨q0, q1⟩ := ZC.read (.string s) (.slice A9 l.length c9)
            obtain ⟨z_, ⟨x0, u0⟩, ⟨x1, u1⟩, zf0, zf1⟩ := ZC
            have HQ := Lib.hid (And.intro q0 q1)
            clear q0 q1
            go_wp2
            obtain ⟨q0, q1⟩ := HQ.out
            refine bodyPost_ret (v := .tuple #[.agg #[.string s, .slice A9 l.length c9], .bool true]) (by simp [results, Try.results46, go_sem, q0, q1]) rfl ?_
            rw [HV.out]
            refine ⟨(K11.setCell (by simp only []; omega) _).setCell (by simp only []; omega) _, _, rfl, ?_⟩
            exact own_le (ownsRow_setCell_below (ownsRow_setCell_below HO11.out (by show w.heap.size + 1 + 1 < _; omega) _) (by show w.heap.size + 1 + 1 < _; omega) _) (by omega)
        · obtain ⟨hbef, hyes, _⟩ := HS.out
          obtain ⟨hlt, heq⟩ := hyes rfl
          have HL : Hid (putL (fun x : RuleV => hdI x.1) r rs = rs.set i r) := Lib.hid (putL_set (h := fun x : RuleV => hdI x.1) hlt hbef heq)
          clear hbef hyes HS heq
          obtain ⟨g, hgA⟩ : ∃ g, A6 = some ⟨g, 0, none⟩ := by
            rcases HO8.out.2 with ⟨_, h0⟩ | ⟨g, cap, cur, h, _⟩
            · omega
            · injection h with h _ _
              exact ⟨g, h⟩
          subst hgA
          have y0 := HO8.out.cellAt (i * 2) (by omega)
          have y1 := HO8.out.cellAt (i * 2 + 1) (by omega)
          have yf0 := HO8.out.frozenAt (i * 2)
          have yf1 := HO8.out.frozenAt (i * 2 + 1)
          obtain ⟨e0, e1⟩ := flat_get (List.getElem?_eq_getElem hlt)
          rw [e0] at y0
          rw [e1] at y1
          clear e0 e1
          generalize hx : rs[i] = x at y0 y1
          clear hx
          have y1' : (w8.setCell ⟨g, i * 2, none⟩ (.string r.1)).cell? ⟨g, i * 2 + 1, none⟩ = some (.string x.2) := (World.cell?_setCell_other _ _ _ _ (by simp)).trans y1
          have hgp : g ≠ p := fun e => HNE.out (by rw [e]; rfl)
          have hg8 := HO8.out.lt g rfl
          have HG8 := Lib.hid hg8
          clear hg8 y1
          go_wp2_with fail
          obtain ⟨w10, hw10⟩ : ∃ w10, w10 = (w8.setCell ⟨g, i * 2, none⟩ (.string r.1)).setCell ⟨g, i * 2 + 1, none⟩ (.string r.2) := ⟨_, rfl⟩
          have N : PutN w w10 p s (rs.set i r) rs.length (some ⟨g, 0, none⟩) c6 r rs := by
            have o1 := (HO8.out.stored (i * 2) (.string r.1)).1
            have o2 := (o1.stored (i * 2 + 1) (.string r.2)).1
            rw [← flat_set, ← hw10] at o2
            have hB8 : w.heap.size ≤ g := by have := HG8.out.1; omega
            refine ⟨⟨by rw [hw10]; simpa [World.setCell] using b_, by rw [hw10]; exact (far_cell hgp).trans ((far_cell hgp).trans b0), by rw [hw10]; exact (far_cell hgp).trans ((far_cell hgp).trans b1)⟩, by rw [hw10]; exact (ZC.set _ _).set _ _, o2, by rw [hw10]; exact (K8.setCell hB8 _).setCell hB8 _, by omega, by simp, HL.out⟩
          rw [← hw10]
          clear hw10 HL HO8 K8 HG8 y0 y1' yf0 yf1
          obtain ⟨⟨p_, p0, p1⟩, ZC, OW, K10, GE10, hlen, hput⟩ := N
          have hl9 : (rs.set i r).length ≤ 9 := by rw [← hput]; have := putL_len (h := fun x : RuleV => hdI x.1) (r := r) (l := rs); omega
          have hzl : ∀ x ∈ rs.set i r, x.1.size ≤ maxLen ∧ x.2.size ≤ maxLen := fun x hx => by
            rw [← hput] at hx
            rcases putL_mem hx with e | e
            · rw [e]; exact ⟨z1, z2⟩
            · exact hz x e
          obtain ⟨A', c', eA, hRd⟩ := own_rrd (w := w10) (l := rs.set i r) (by rw [← hlen]; exact OW)
          injection eA with eA1 eAn eA2
          clear eAn
          subst eA1; subst eA2
          have V := implVG_any s (some ⟨g, 0, none⟩) c6 (rs.set i r) w10 hRd (by unfold maxLen; omega) hs hzl
          rw [← hlen] at V
          refine V.mono ?_
          clear V
          rintro e w11 ⟨rfl, k11⟩
          obtain ⟨p_, p0, p1⟩ := (Box.mk p_ p0 p1).below k11
          have ZC := ZC.below k11
          have HO11 := Lib.hid (own_step OW k11)
          have K11 := Below.step K10 k11
          clear k11 K10 OW hRd hlen hl9 hzl
          cases hV : gramB s (rs.set i r)
          · have HV : Hid (putV s rs r = none) := Lib.hid (by unfold putV; rw [HG.out.1, HG.out.2, hput, hV]; rfl)
            clear hV hput
            obtain ⟨q0, q1⟩ := ZC.read (.string ⟨#[]⟩) (.slice none 0 0)
            obtain ⟨z_, ⟨x0, u0⟩, ⟨x1, u1⟩, zf0, zf1⟩ := ZC
            have HQ := Lib.hid (And.intro q0 q1)
            clear q0 q1
            go_wp2
            obtain ⟨q0, q1⟩ := HQ.out
            refine bodyPost_ret (v := .tuple #[.agg #[.string ⟨#[]⟩, .slice none 0 0], .bool false]) (by simp [results, Try.results46, go_sem, q0, q1]) rfl ?_
            rw [HV.out]
            exact ⟨(K11.setCell (by simp only []; omega) _).setCell (by simp only []; omega) _, rfl⟩
          · have HV : Hid (putV s rs r = some (rs.set i r)) := Lib.hid (by unfold putV; rw [HG.out.1, HG.out.2, hput, hV]; rfl)
            clear hV hput
            obtain ⟨q0, q1⟩ := ZC.read (.string s) (.slice (some ⟨g, 0, none⟩) rs.length c6)
            obtain ⟨z_, ⟨x0, u0⟩, ⟨x1, u1⟩, zf0, zf1⟩ := ZC
            have HQ := Lib.hid (And.intro q0 q1)
            clear q0 q1
            go_wp2
            obtain ⟨q0, q1⟩ := HQ.out
            refine bodyPost_ret (v := .tuple #[.agg #[.string s, .slice (some ⟨g, 0, none⟩) rs.length c6], .bool true]) (by simp [results, Try.results46, go_sem, q0, q1]) rfl ?_
            rw [HV.out]
            refine ⟨(K11.setCell (by simp only []; omega) _).setCell (by simp only []; omega) _, _, rfl, ?_⟩
            rw [List.length_set]
            exact own_le (ownsRow_setCell_below (ownsRow_setCell_below HO11.out (by show w.heap.size + 1 + 1 < _; omega) _) (by show w.heap.size + 1 + 1 < _; omega) _) (by omega)
end Go.Proofs.Ytfblpibioegmkaa
