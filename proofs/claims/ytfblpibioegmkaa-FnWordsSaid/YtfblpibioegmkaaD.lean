/- The grammars that are written out, both sides, and their three laws' walks. -/
import Derived.Test.YtfblpibioegmkaaC
namespace Go.Proofs.Ytfblpibioegmkaa
open Go.RowKit

/-- A grammar in new memory. -/
def NewG (w : World) (s : ByteArray) (rs : List RuleV) (e : Ending) (w' : World) : Prop :=
  ∃ g c, e = .returned (.agg #[.string s, .slice (some ⟨g, 0, none⟩) rs.length c]) ∧ w.heap.size ≤ g ∧ g < w'.heap.size ∧ RRd w' (some ⟨g, 0, none⟩) rs ∧ Wr w' g 0 (2 * rs.length) ∧ Below w.heap.size w w'

theorem newG_mk (w : World) (o : Obj) (cs : Array Value) (s : ByteArray) (rs : List RuleV) (hcs : ∀ (i : Nat) (r : RuleV), rs[i]? = some r → cs[i * 2]? = some (.string r.1) ∧ cs[i * 2 + 1]? = some (.string r.2))
    (hsz : cs.size = 2 * rs.length) (n : Nat) (hn : n = rs.length) :
    NewG w s rs (.returned (.agg #[.string s, .slice (some ⟨w.heap.size + 1, 0, none⟩) n n])) ((w.alloc o).alloc (.cells cs 55)) := by
  subst hn
  have hh : ((w.alloc o).alloc (.cells cs 55)).heap[w.heap.size + 1]? = some (.cells cs 55 (0, 0)) := by
    have := heap_alloc_new (w.alloc o) (.cells cs 55)
    simpa using this
  have hc : ∀ j, ((w.alloc o).alloc (.cells cs 55)).cell? ⟨w.heap.size + 1, j, none⟩ = cs[j]? := fun j => by unfold World.cell?; rw [hh]; rfl
  refine ⟨w.heap.size + 1, rs.length, rfl, by omega, by simp, fun i r hi => ⟨_, _, rfl, by simp, ?_, ?_⟩, fun j hj => ⟨?_, ?_⟩, Below.step (below_alloc _ _) (below_alloc _ _)⟩
  · rw [Nat.zero_add, hc]; exact (hcs i r hi).1
  · rw [Nat.zero_add, hc]; exact (hcs i r hi).2
  · rw [Nat.zero_add, hc]; exact ⟨_, Array.getElem?_eq_getElem (by omega)⟩
  · unfold World.frozen?; rw [hh]; simp

def bushS : ByteArray := ⟨#[70]⟩
def bushR : List RuleV := [(⟨#[70]⟩, ⟨#[70, 91, 43, 70, 93, 70, 91, 45, 70, 93, 70]⟩)]
def dragonS : ByteArray := ⟨#[70, 88]⟩
def dragonR : List RuleV := [(⟨#[88]⟩, ⟨#[88, 43, 89, 70, 43]⟩), (⟨#[89]⟩, ⟨#[45, 70, 88, 45, 89]⟩)]
def kochR : List RuleV := [(⟨#[70]⟩, ⟨#[70, 43, 70, 45, 45, 70, 43, 70]⟩)]

theorem at_one {r r' : RuleV} {i : Nat} (h : [r][i]? = some r') : i = 0 ∧ r = r' := by
  cases i with
  | zero => exact ⟨rfl, by simpa using h⟩
  | succ i => simp at h
theorem at_two {r t r' : RuleV} {i : Nat} (h : [r, t][i]? = some r') : (i = 0 ∧ r = r') ∨ (i = 1 ∧ t = r') := by
  match i, h with
  | 0, h => exact .inl ⟨rfl, by simpa using h⟩
  | 1, h => exact .inr ⟨rfl, by simpa using h⟩
  | i + 2, h => simp at h

theorem specBush (w : World) : Calls Try.prog 17 #[] w (NewG w bushS bushR) := by
  go_enter Try.func17, Try.ntmps17
  go_wp2
  go_returns
  exact newG_mk w _ _ bushS bushR (fun i r h => by obtain ⟨rfl, rfl⟩ := at_one h; exact ⟨rfl, rfl⟩) rfl _ rfl
theorem implBush (w : World) : Calls Try.prog 18 #[] w (NewG w bushS bushR) := by
  go_enter Try.func18, Try.ntmps18
  go_wp2
  go_returns
  exact newG_mk w _ _ bushS bushR (fun i r h => by obtain ⟨rfl, rfl⟩ := at_one h; exact ⟨rfl, rfl⟩) rfl _ rfl
theorem specKoch (w : World) : Calls Try.prog 24 #[] w (NewG w bushS kochR) := by
  go_enter Try.func24, Try.ntmps24
  go_wp2
  go_returns
  exact newG_mk w _ _ bushS kochR (fun i r h => by obtain ⟨rfl, rfl⟩ := at_one h; exact ⟨rfl, rfl⟩) rfl _ rfl
theorem implKoch (w : World) : Calls Try.prog 25 #[] w (NewG w bushS kochR) := by
  go_enter Try.func25, Try.ntmps25
  go_wp2
  go_returns
  exact newG_mk w _ _ bushS kochR (fun i r h => by obtain ⟨rfl, rfl⟩ := at_one h; exact ⟨rfl, rfl⟩) rfl _ rfl
theorem specDragon (w : World) : Calls Try.prog 22 #[] w (NewG w dragonS dragonR) := by
  go_enter Try.func22, Try.ntmps22
  go_wp2
  go_returns
  exact newG_mk w _ _ dragonS dragonR (fun i r h => by rcases at_two h with ⟨rfl, rfl⟩ | ⟨rfl, rfl⟩ <;> exact ⟨rfl, rfl⟩) rfl _ rfl
theorem implDragon (w : World) : Calls Try.prog 23 #[] w (NewG w dragonS dragonR) := by
  go_enter Try.func23, Try.ntmps23
  go_wp2
  go_returns
  exact newG_mk w _ _ dragonS dragonR (fun i r h => by rcases at_two h with ⟨rfl, rfl⟩ | ⟨rfl, rfl⟩ <;> exact ⟨rfl, rfl⟩) rfl _ rfl

theorem Keep.cell {S : Nat → Prop} {w w' : World} (k : Keep S w w') {p : Addr} (hb : p.block < w.heap.size) (hs : ¬ S p.block) : w'.cell? p = w.cell? p := World.cell?_of_block (w := w) (k.block p.block hb hs)
theorem markGrammar_at (u : ByteArray) (b n c : Nat) (q : Int) (k : Nat) (hq : q = k) (w : World) (hb : b < w.heap.size) (hw : Wr w b 0 (2 * n)) (h0 : 0 < k) (h1 : k ≤ 4611686018427387904 / 4) (hn : n ≤ 4611686018427387904 / 4) :
    Calls Try.prog 20 #[.agg #[.string u, .slice (some ⟨b, 0, none⟩) n c], .int .i64 q] w fun e w' => e = .returned (.int .i64 (k + 2 * n : Nat)) ∧ Keep (· = b) w w' ∧ RRd w' (some ⟨b, 0, none⟩) (marks k n) := by
  subst hq; exact markGrammar_any u b 0 n c k w hb hw h0 h1 hn
theorem heldGrammar_at (u : ByteArray) (A : Option Addr) (n c : Nat) (q : Int) (k : Nat) (hq : q = k) (w : World) (hr : RRd w A (marks k n)) (h0 : 0 < k) (h1 : k ≤ 4611686018427387904 / 4) (hn : n ≤ 4611686018427387904 / 4) :
    Calls Try.prog 21 #[.agg #[.string u, .slice A n c], .int .i64 q] w fun e w' => e = .returned (.int .i64 (k + 2 * n : Nat)) ∧ Below w.heap.size w w' := by
  subst hq; exact heldGrammar_ok u A n c k w hr h0 h1 hn

theorem bushLaw (w : World) : Calls Try.prog 4 #[] w fun e w' => e = .returned (.bool true) ∧ Below w.heap.size w w' := by
  go_enter Try.func4, Try.ntmps4
  go_wp2_with fail
  refine (specBush _).mono ?_
  rintro e w1 ⟨g1, c1, rfl, a1, b1, r1, x1, k1⟩
  clear x1
  go_wp2_with fail
  refine (implBush _).mono ?_
  rintro e w2 ⟨g2, c2, rfl, a2, b2, r2, x2, k2⟩
  have a2' : w1.heap.size < g2 := by simp at a2; omega
  have z2 : w1.heap.size < w2.heap.size := by omega
  have p0 : w2.cell? ⟨w1.heap.size, 0, none⟩ = some (.string bushS) := (k2.cell (by simp)).trans (by simp)
  have p1 : w2.cell? ⟨w1.heap.size, 1, none⟩ = some (.slice (some ⟨g1, 0, none⟩) bushR.length c1) := (k2.cell (by simp)).trans (by simp)
  have k2' := Below.step (below_alloc _ _) k2
  have r1 := r1.below k2'
  have K := k1.trans (k2'.mono (B' := w.heap.size) k1.size)
  clear k1 k2 k2' a2
  go_wp2_with fail
  refine (eqGrammar_any _ _ _ _ _ _ bushR bushR _ (r2.below (below_alloc _ _)) (r1.below (below_alloc _ _)) (by decide) (by decide)).mono ?_
  rintro e w3 ⟨rfl, k3⟩
  have k3' := Below.step (below_alloc _ _) k3
  have z3 : w2.heap.size < w3.heap.size := by have := k3.size; simp at this; omega
  have q0 : w3.cell? ⟨w2.heap.size, 0, none⟩ = some (.string bushS) := (k3.cell (by simp)).trans (by simp)
  have q1 : w3.cell? ⟨w2.heap.size, 1, none⟩ = some (.slice (some ⟨g2, 0, none⟩) bushR.length c2) := (k3.cell (by simp)).trans (by simp)
  have p0 := (k3'.cell z2).trans p0
  have p1 := (k3'.cell z2).trans p1
  have r1 := r1.below k3'
  have x2 := x2.keep (S := fun _ => False) (Keep.of_below k3') b2 id
  have K := K.trans (k3'.mono (B' := w.heap.size) K.size)
  clear k3 k3' r2
  go_wp2_with fail
  refine (markGrammar_at _ _ _ _ _ 1 rfl _ (Nat.lt_trans b2 z3) x2 (by decide) (by decide) (by decide)).mono ?_
  rintro e w4 ⟨rfl, k4, m4⟩
  have z4 := k4.size
  have p0 := (k4.cell (p := ⟨w1.heap.size, 0, none⟩) (by show w1.heap.size < _; omega) (by show ¬ w1.heap.size = g2; omega)).trans p0
  have p1 := (k4.cell (p := ⟨w1.heap.size, 1, none⟩) (by show w1.heap.size < _; omega) (by show ¬ w1.heap.size = g2; omega)).trans p1
  have q0 := (k4.cell (p := ⟨w2.heap.size, 0, none⟩) (by show w2.heap.size < _; omega) (by show ¬ w2.heap.size = g2; omega)).trans q0
  have q1 := (k4.cell (p := ⟨w2.heap.size, 1, none⟩) (by show w2.heap.size < _; omega) (by show ¬ w2.heap.size = g2; omega)).trans q1
  have r1 := r1.keep k4 (fun b o h => by injection h with h; injection h with h; omega)
  have K := k4.below K (by have := K.size; omega) (fun k h => by subst h; have := K.size; omega)
  clear k4 x2
  go_wp2_with fail
  refine (heldGrammar_at _ _ _ _ _ 1 rfl _ m4 (by decide) (by decide) (by decide)).mono ?_
  rintro e w5 ⟨rfl, k5⟩
  have z5 := k5.size
  have p0 := (k5.cell (p := ⟨w1.heap.size, 0, none⟩) (by show w1.heap.size < _; omega)).trans p0
  have p1 := (k5.cell (p := ⟨w1.heap.size, 1, none⟩) (by show w1.heap.size < _; omega)).trans p1
  have q0 := (k5.cell (p := ⟨w2.heap.size, 0, none⟩) (by show w2.heap.size < _; omega)).trans q0
  have q1 := (k5.cell (p := ⟨w2.heap.size, 1, none⟩) (by show w2.heap.size < _; omega)).trans q1
  have r1 := r1.below k5
  have m5 := m4.below k5
  have K := K.trans (k5.mono (B' := w.heap.size) K.size)
  clear k5 m4
  go_wp2_with fail
  refine (implBush _).mono ?_
  rintro e w6 ⟨g6, c6, rfl, a6, b6, r6, x6, k6⟩
  have z6 : w5.heap.size ≤ w6.heap.size := k6.size
  have p0 := (k6.cell (p := ⟨w1.heap.size, 0, none⟩) (by show w1.heap.size < _; omega)).trans p0
  have p1 := (k6.cell (p := ⟨w1.heap.size, 1, none⟩) (by show w1.heap.size < _; omega)).trans p1
  have q0 := (k6.cell (p := ⟨w2.heap.size, 0, none⟩) (by show w2.heap.size < _; omega)).trans q0
  have q1 := (k6.cell (p := ⟨w2.heap.size, 1, none⟩) (by show w2.heap.size < _; omega)).trans q1
  have r1 := r1.below k6
  have m6 := m5.below k6
  have K := K.trans (k6.mono (B' := w.heap.size) K.size)
  have y1 : w1.heap.size < w6.heap.size := by omega
  have y2 : w2.heap.size < w6.heap.size := by omega
  clear k6 m5 x6
  go_wp2_with fail
  refine (eqGrammar_any _ _ _ _ _ _ bushR bushR _ (r6.below (below_alloc _ _)) (r1.below (below_alloc _ _)) (by decide) (by decide)).mono ?_
  rintro e w7 ⟨rfl, k7⟩
  have k7' := Below.step (below_alloc _ _) k7
  have z7 := k7'.size
  have q0 := (k7'.cell (p := ⟨w2.heap.size, 0, none⟩) (by show w2.heap.size < _; omega)).trans q0
  have q1 := (k7'.cell (p := ⟨w2.heap.size, 1, none⟩) (by show w2.heap.size < _; omega)).trans q1
  have m7 := m6.below k7'
  have K := K.trans (k7'.mono (B' := w.heap.size) K.size)
  clear k7 k7' m6 p0 p1 r1 r6
  go_wp2_with fail
  refine (heldGrammar_at _ _ _ _ _ 1 rfl _ m7 (by decide) (by decide) (by decide)).mono ?_
  rintro e w8 ⟨rfl, k8⟩
  have K := K.trans (k8.mono (B' := w.heap.size) K.size)
  go_wp2
  go_ret
  exact ⟨rfl, K⟩

theorem dragonLaw (w : World) : Calls Try.prog 5 #[] w fun e w' => e = .returned (.bool true) ∧ Below w.heap.size w w' := by
  go_enter Try.func5, Try.ntmps5
  go_wp2_with fail
  refine (specDragon _).mono ?_
  rintro e w1 ⟨g1, c1, rfl, a1, b1, r1, x1, k1⟩
  clear x1
  go_wp2_with fail
  refine (implDragon _).mono ?_
  rintro e w2 ⟨g2, c2, rfl, a2, b2, r2, x2, k2⟩
  have a2' : w1.heap.size < g2 := by simp at a2; omega
  have z2 : w1.heap.size < w2.heap.size := by omega
  have p0 : w2.cell? ⟨w1.heap.size, 0, none⟩ = some (.string dragonS) := (k2.cell (by simp)).trans (by simp)
  have p1 : w2.cell? ⟨w1.heap.size, 1, none⟩ = some (.slice (some ⟨g1, 0, none⟩) dragonR.length c1) := (k2.cell (by simp)).trans (by simp)
  have k2' := Below.step (below_alloc _ _) k2
  have r1 := r1.below k2'
  have K := k1.trans (k2'.mono (B' := w.heap.size) k1.size)
  clear k1 k2 k2' a2
  go_wp2_with fail
  refine (eqGrammar_any _ _ _ _ _ _ dragonR dragonR _ (r2.below (below_alloc _ _)) (r1.below (below_alloc _ _)) (by decide) (by decide)).mono ?_
  rintro e w3 ⟨rfl, k3⟩
  have k3' := Below.step (below_alloc _ _) k3
  have z3 : w2.heap.size < w3.heap.size := by have := k3.size; simp at this; omega
  have q0 : w3.cell? ⟨w2.heap.size, 0, none⟩ = some (.string dragonS) := (k3.cell (by simp)).trans (by simp)
  have q1 : w3.cell? ⟨w2.heap.size, 1, none⟩ = some (.slice (some ⟨g2, 0, none⟩) dragonR.length c2) := (k3.cell (by simp)).trans (by simp)
  have p0 := (k3'.cell z2).trans p0
  have p1 := (k3'.cell z2).trans p1
  have r1 := r1.below k3'
  have x2 := x2.keep (S := fun _ => False) (Keep.of_below k3') b2 id
  have K := K.trans (k3'.mono (B' := w.heap.size) K.size)
  clear k3 k3' r2
  go_wp2_with fail
  refine (markGrammar_at _ _ _ _ _ 1 rfl _ (Nat.lt_trans b2 z3) x2 (by decide) (by decide) (by decide)).mono ?_
  rintro e w4 ⟨rfl, k4, m4⟩
  have z4 := k4.size
  have p0 := (k4.cell (p := ⟨w1.heap.size, 0, none⟩) (by show w1.heap.size < _; omega) (by show ¬ w1.heap.size = g2; omega)).trans p0
  have p1 := (k4.cell (p := ⟨w1.heap.size, 1, none⟩) (by show w1.heap.size < _; omega) (by show ¬ w1.heap.size = g2; omega)).trans p1
  have q0 := (k4.cell (p := ⟨w2.heap.size, 0, none⟩) (by show w2.heap.size < _; omega) (by show ¬ w2.heap.size = g2; omega)).trans q0
  have q1 := (k4.cell (p := ⟨w2.heap.size, 1, none⟩) (by show w2.heap.size < _; omega) (by show ¬ w2.heap.size = g2; omega)).trans q1
  have r1 := r1.keep k4 (fun b o h => by injection h with h; injection h with h; omega)
  have K := k4.below K (by have := K.size; omega) (fun k h => by subst h; have := K.size; omega)
  clear k4 x2
  go_wp2_with fail
  refine (heldGrammar_at _ _ _ _ _ 1 rfl _ m4 (by decide) (by decide) (by decide)).mono ?_
  rintro e w5 ⟨rfl, k5⟩
  have z5 := k5.size
  have p0 := (k5.cell (p := ⟨w1.heap.size, 0, none⟩) (by show w1.heap.size < _; omega)).trans p0
  have p1 := (k5.cell (p := ⟨w1.heap.size, 1, none⟩) (by show w1.heap.size < _; omega)).trans p1
  have q0 := (k5.cell (p := ⟨w2.heap.size, 0, none⟩) (by show w2.heap.size < _; omega)).trans q0
  have q1 := (k5.cell (p := ⟨w2.heap.size, 1, none⟩) (by show w2.heap.size < _; omega)).trans q1
  have r1 := r1.below k5
  have m5 := m4.below k5
  have K := K.trans (k5.mono (B' := w.heap.size) K.size)
  clear k5 m4
  go_wp2_with fail
  refine (implDragon _).mono ?_
  rintro e w6 ⟨g6, c6, rfl, a6, b6, r6, x6, k6⟩
  have z6 : w5.heap.size ≤ w6.heap.size := k6.size
  have p0 := (k6.cell (p := ⟨w1.heap.size, 0, none⟩) (by show w1.heap.size < _; omega)).trans p0
  have p1 := (k6.cell (p := ⟨w1.heap.size, 1, none⟩) (by show w1.heap.size < _; omega)).trans p1
  have q0 := (k6.cell (p := ⟨w2.heap.size, 0, none⟩) (by show w2.heap.size < _; omega)).trans q0
  have q1 := (k6.cell (p := ⟨w2.heap.size, 1, none⟩) (by show w2.heap.size < _; omega)).trans q1
  have r1 := r1.below k6
  have m6 := m5.below k6
  have K := K.trans (k6.mono (B' := w.heap.size) K.size)
  have y1 : w1.heap.size < w6.heap.size := by omega
  have y2 : w2.heap.size < w6.heap.size := by omega
  clear k6 m5 x6
  go_wp2_with fail
  refine (eqGrammar_any _ _ _ _ _ _ dragonR dragonR _ (r6.below (below_alloc _ _)) (r1.below (below_alloc _ _)) (by decide) (by decide)).mono ?_
  rintro e w7 ⟨rfl, k7⟩
  have k7' := Below.step (below_alloc _ _) k7
  have z7 := k7'.size
  have q0 := (k7'.cell (p := ⟨w2.heap.size, 0, none⟩) (by show w2.heap.size < _; omega)).trans q0
  have q1 := (k7'.cell (p := ⟨w2.heap.size, 1, none⟩) (by show w2.heap.size < _; omega)).trans q1
  have m7 := m6.below k7'
  have K := K.trans (k7'.mono (B' := w.heap.size) K.size)
  clear k7 k7' m6 p0 p1 r1 r6
  go_wp2_with fail
  refine (heldGrammar_at _ _ _ _ _ 1 rfl _ m7 (by decide) (by decide) (by decide)).mono ?_
  rintro e w8 ⟨rfl, k8⟩
  have K := K.trans (k8.mono (B' := w.heap.size) K.size)
  go_wp2
  go_ret
  exact ⟨rfl, K⟩

theorem kochLaw (w : World) : Calls Try.prog 6 #[] w fun e w' => e = .returned (.bool true) ∧ Below w.heap.size w w' := by
  go_enter Try.func6, Try.ntmps6
  go_wp2_with fail
  refine (specKoch _).mono ?_
  rintro e w1 ⟨g1, c1, rfl, a1, b1, r1, x1, k1⟩
  clear x1
  go_wp2_with fail
  refine (implKoch _).mono ?_
  rintro e w2 ⟨g2, c2, rfl, a2, b2, r2, x2, k2⟩
  have a2' : w1.heap.size < g2 := by simp at a2; omega
  have z2 : w1.heap.size < w2.heap.size := by omega
  have p0 : w2.cell? ⟨w1.heap.size, 0, none⟩ = some (.string bushS) := (k2.cell (by simp)).trans (by simp)
  have p1 : w2.cell? ⟨w1.heap.size, 1, none⟩ = some (.slice (some ⟨g1, 0, none⟩) kochR.length c1) := (k2.cell (by simp)).trans (by simp)
  have k2' := Below.step (below_alloc _ _) k2
  have r1 := r1.below k2'
  have K := k1.trans (k2'.mono (B' := w.heap.size) k1.size)
  clear k1 k2 k2' a2
  go_wp2_with fail
  refine (eqGrammar_any _ _ _ _ _ _ kochR kochR _ (r2.below (below_alloc _ _)) (r1.below (below_alloc _ _)) (by decide) (by decide)).mono ?_
  rintro e w3 ⟨rfl, k3⟩
  have k3' := Below.step (below_alloc _ _) k3
  have z3 : w2.heap.size < w3.heap.size := by have := k3.size; simp at this; omega
  have q0 : w3.cell? ⟨w2.heap.size, 0, none⟩ = some (.string bushS) := (k3.cell (by simp)).trans (by simp)
  have q1 : w3.cell? ⟨w2.heap.size, 1, none⟩ = some (.slice (some ⟨g2, 0, none⟩) kochR.length c2) := (k3.cell (by simp)).trans (by simp)
  have p0 := (k3'.cell z2).trans p0
  have p1 := (k3'.cell z2).trans p1
  have r1 := r1.below k3'
  have x2 := x2.keep (S := fun _ => False) (Keep.of_below k3') b2 id
  have K := K.trans (k3'.mono (B' := w.heap.size) K.size)
  clear k3 k3' r2
  go_wp2_with fail
  refine (markGrammar_at _ _ _ _ _ 1 rfl _ (Nat.lt_trans b2 z3) x2 (by decide) (by decide) (by decide)).mono ?_
  rintro e w4 ⟨rfl, k4, m4⟩
  have z4 := k4.size
  have p0 := (k4.cell (p := ⟨w1.heap.size, 0, none⟩) (by show w1.heap.size < _; omega) (by show ¬ w1.heap.size = g2; omega)).trans p0
  have p1 := (k4.cell (p := ⟨w1.heap.size, 1, none⟩) (by show w1.heap.size < _; omega) (by show ¬ w1.heap.size = g2; omega)).trans p1
  have q0 := (k4.cell (p := ⟨w2.heap.size, 0, none⟩) (by show w2.heap.size < _; omega) (by show ¬ w2.heap.size = g2; omega)).trans q0
  have q1 := (k4.cell (p := ⟨w2.heap.size, 1, none⟩) (by show w2.heap.size < _; omega) (by show ¬ w2.heap.size = g2; omega)).trans q1
  have r1 := r1.keep k4 (fun b o h => by injection h with h; injection h with h; omega)
  have K := k4.below K (by have := K.size; omega) (fun k h => by subst h; have := K.size; omega)
  clear k4 x2
  go_wp2_with fail
  refine (heldGrammar_at _ _ _ _ _ 1 rfl _ m4 (by decide) (by decide) (by decide)).mono ?_
  rintro e w5 ⟨rfl, k5⟩
  have z5 := k5.size
  have p0 := (k5.cell (p := ⟨w1.heap.size, 0, none⟩) (by show w1.heap.size < _; omega)).trans p0
  have p1 := (k5.cell (p := ⟨w1.heap.size, 1, none⟩) (by show w1.heap.size < _; omega)).trans p1
  have q0 := (k5.cell (p := ⟨w2.heap.size, 0, none⟩) (by show w2.heap.size < _; omega)).trans q0
  have q1 := (k5.cell (p := ⟨w2.heap.size, 1, none⟩) (by show w2.heap.size < _; omega)).trans q1
  have r1 := r1.below k5
  have m5 := m4.below k5
  have K := K.trans (k5.mono (B' := w.heap.size) K.size)
  clear k5 m4
  go_wp2_with fail
  refine (implKoch _).mono ?_
  rintro e w6 ⟨g6, c6, rfl, a6, b6, r6, x6, k6⟩
  have z6 : w5.heap.size ≤ w6.heap.size := k6.size
  have p0 := (k6.cell (p := ⟨w1.heap.size, 0, none⟩) (by show w1.heap.size < _; omega)).trans p0
  have p1 := (k6.cell (p := ⟨w1.heap.size, 1, none⟩) (by show w1.heap.size < _; omega)).trans p1
  have q0 := (k6.cell (p := ⟨w2.heap.size, 0, none⟩) (by show w2.heap.size < _; omega)).trans q0
  have q1 := (k6.cell (p := ⟨w2.heap.size, 1, none⟩) (by show w2.heap.size < _; omega)).trans q1
  have r1 := r1.below k6
  have m6 := m5.below k6
  have K := K.trans (k6.mono (B' := w.heap.size) K.size)
  have y1 : w1.heap.size < w6.heap.size := by omega
  have y2 : w2.heap.size < w6.heap.size := by omega
  clear k6 m5 x6
  go_wp2_with fail
  refine (eqGrammar_any _ _ _ _ _ _ kochR kochR _ (r6.below (below_alloc _ _)) (r1.below (below_alloc _ _)) (by decide) (by decide)).mono ?_
  rintro e w7 ⟨rfl, k7⟩
  have k7' := Below.step (below_alloc _ _) k7
  have z7 := k7'.size
  have q0 := (k7'.cell (p := ⟨w2.heap.size, 0, none⟩) (by show w2.heap.size < _; omega)).trans q0
  have q1 := (k7'.cell (p := ⟨w2.heap.size, 1, none⟩) (by show w2.heap.size < _; omega)).trans q1
  have m7 := m6.below k7'
  have K := K.trans (k7'.mono (B' := w.heap.size) K.size)
  clear k7 k7' m6 p0 p1 r1 r6
  go_wp2_with fail
  refine (heldGrammar_at _ _ _ _ _ 1 rfl _ m7 (by decide) (by decide) (by decide)).mono ?_
  rintro e w8 ⟨rfl, k8⟩
  have K := K.trans (k8.mono (B' := w.heap.size) K.size)
  go_wp2
  go_ret
  exact ⟨rfl, K⟩

end Go.Proofs.Ytfblpibioegmkaa
