/- A grammar drawn. -/
import Derived.Test.YtfblpibioegmkaaW4
import Derived.Test.YtfblpibioegmkaaW3
import Derived.Deep.AppendLies
import Derived.Deep.RegionLaw
namespace Go.Proofs.Ytfblpibioegmkaa
open Go.RowKit

def startsL : List ByteArray := [⟨#[70]⟩, ⟨#[70, 88]⟩, ⟨#[88]⟩, ⟨#[70, 43, 70]⟩, ⟨#[]⟩]
def letL : List ByteArray := [⟨#[65]⟩, ⟨#[70]⟩, ⟨#[88]⟩, ⟨#[89]⟩]
def textsL : List ByteArray := [⟨#[]⟩, ⟨#[70]⟩, ⟨#[70, 70]⟩, ⟨#[70, 43, 88]⟩, ⟨#[91, 88, 93, 70]⟩, ⟨#[89, 70, 45]⟩, ⟨#[88, 45, 89, 43, 65]⟩]
def bnd (i : Nat) : Int := [65, 70, 88, 89, 90].getD i 91
structure AccOk (i : Nat) (acc : List RuleV) : Prop where
  srt : Srt (fun x : RuleV => hdI x.1) acc
  all : ∀ r ∈ acc, ruleB r = true ∧ r.2.size ≤ 5 ∧ hdI r.1 < bnd i ∧ hdI r.1 ≠ 81
  len : acc.length ≤ i
theorem let_ok : ∀ i, i < 4 → ∀ t ∈ textsL, ruleB (letL.getD i ⟨#[]⟩, t) = true ∧ t.size ≤ 5 ∧ hdI (letL.getD i ⟨#[]⟩) = bnd i ∧ bnd i < bnd (i + 1) ∧ bnd i ≠ 81 := by decide +kernel
theorem AccOk.skip {i : Nat} {acc : List RuleV} (h : AccOk i acc) (hi : i < 4) : AccOk (i + 1) acc :=
  ⟨h.srt, fun r hr => by
    obtain ⟨a, b, c, d⟩ := h.all r hr
    have := (let_ok i hi ⟨#[]⟩ (by simp [textsL])).2.2.2.1
    exact ⟨a, b, by omega, d⟩, by have := h.len; omega⟩
theorem AccOk.push {i : Nat} {acc : List RuleV} (h : AccOk i acc) (hi : i < 4) {t : ByteArray} (ht : t ∈ textsL) : AccOk (i + 1) (acc ++ [(letL.getD i ⟨#[]⟩, t)]) := by
  obtain ⟨a, b, c, d, e⟩ := let_ok i hi t ht
  refine ⟨?_, fun r hr => ?_, by have := h.len; simp; omega⟩
  · unfold Srt
    rw [List.pairwise_append]
    refine ⟨h.srt, by simp, fun x hx y hy => ?_⟩
    obtain rfl : y = (letL.getD i ⟨#[]⟩, t) := by simpa using hy
    have := (h.all x hx).2.2.1
    show hdI x.1 < hdI (letL.getD i ⟨#[]⟩)
    omega
  · rcases List.mem_append.1 hr with hr | hr
    · obtain ⟨a', b', c', d'⟩ := h.all r hr
      exact ⟨a', b', by omega, d'⟩
    · obtain rfl : r = (letL.getD i ⟨#[]⟩, t) := by simpa using hr
      exact ⟨a, b, by show hdI (letL.getD i ⟨#[]⟩) < _; omega, by show hdI (letL.getD i ⟨#[]⟩) ≠ _; omega⟩
theorem starts_ok : ∀ s ∈ startsL, wordB 32 s.data.toList = true ∧ s.data.toList.length ≤ 3 := by decide +kernel
theorem AccOk.done {acc : List RuleV} (h : AccOk 4 acc) {s : ByteArray} (hs : s ∈ startsL) : DG s acc := by
  obtain ⟨h1, h2⟩ := starts_ok s hs
  have hsm : SmallR 5 acc := small_of (by decide) (fun r hr => (h.all r hr).2.1)
  have hl := h.len
  exact ⟨gram_of h1 (fun r hr => (h.all r hr).1) h.srt (by omega), fun r hr => (h.all r hr).2.2.2, hl, hsm.mono (by decide), itM_bound hsm (by decide) (Nat.le_trans (Nat.mul_le_mul_right _ h2) (by decide))⟩
theorem cells_texts (w : World) (ts : List ByteArray) (T : TypeId) : ∀ i t, ts[i]? = some t → (w.alloc (.cells (ts.map Value.string).toArray T)).cell? ⟨w.heap.size, i, none⟩ = some (.string t) := fun i t h => by
  rw [cell_of_row _ w.heap.size i _ T (0, 0) (heap_alloc_new w _)]
  simp [h]
theorem keep_two (w : World) (p : Nat) (x y : Value) : Keep (· = p) w ((w.setCell ⟨p, 0, none⟩ x).setCell ⟨p, 1, none⟩ y) :=
  ((Keep.refl (· = p) w).setCell (p := ⟨p, 0, none⟩) (.inl rfl) x).setCell (p := ⟨p, 1, none⟩) (.inl rfl) y
theorem Can.keep {S : Nat → Prop} {w w' : World} {p : Nat} (h : Can w p) (k : Keep S w w') (hs : ¬ S p) : Can w' p := by
  obtain ⟨h0, ⟨v, h1⟩, ⟨u, h2⟩, h3, h4⟩ := h
  have hb := k.block p h0 hs
  exact ⟨Nat.lt_of_lt_of_le h0 k.size, ⟨v, (World.cell?_of_block (w := w) (a := ⟨p, 0, none⟩) hb).trans h1⟩, ⟨u, (World.cell?_of_block (w := w) (a := ⟨p, 1, none⟩) hb).trans h2⟩,
    (World.frozen?_of_block (w := w) (a := ⟨p, 0, none⟩) hb).trans h3, (World.frozen?_of_block (w := w) (a := ⟨p, 1, none⟩) hb).trans h4⟩
/-- In the drawing's loop. -/
structure DrawI (w wr : World) (p q gL b0 : Nat) (s : ByteArray) (acc : List RuleV) (A : Option Addr) (c : Nat) : Prop where
  box : Box wr q s A acc.length c
  can : Can wr q
  lets : ∀ j t, letL[j]? = some t → wr.cell? ⟨gL, j, none⟩ = some (.string t)
  own : wr.ownsRow b0 55 2 (.slice A acc.length c) acc.length (acc.flatMap rv)
  nq : (Value.slice A acc.length c).ownBlock ≠ some q
  ng : (Value.slice A acc.length c).ownBlock ≠ some gL
  lt : gL < wr.heap.size
  pb : p < w.heap.size
  hb : w.heap.size < b0
  hq : b0 < q
  hg : q < gL
  res : Can wr w.heap.size
  keep : Keep (· = p) w wr
section
variable {w wr wa w6 : World} {p q gL b0 : Nat} {s : ByteArray} {acc : List RuleV} {A : Option Addr} {c : Nat}
theorem DrawI.keep' (I : DrawI w wr p q gL b0 s acc A c) (k : Keep (· = p) wr wa) : DrawI w wa p q gL b0 s acc A c := by
  have h1 := I.pb; have h2 := I.hb; have h3 := I.hq; have h4 := I.hg
  have hp1 : ¬ q = p := by omega
  have hp2 : ¬ gL = p := by omega
  have hp3 : ¬ w.heap.size = p := by omega
  exact ⟨⟨Nat.lt_of_lt_of_le I.box.lt k.size, (World.cell?_of_block (k.block q I.box.lt hp1)).trans I.box.c0, (World.cell?_of_block (k.block q I.box.lt hp1)).trans I.box.c1⟩, I.can.keep k hp1,
    fun j t h => (World.cell?_of_block (k.block gL I.lt hp2)).trans (I.lets j t h), own_keep I.own k (fun g e h => by have := (I.own.lt g e).1; (have h' : g = p := h); omega), I.nq, I.ng, Nat.lt_of_lt_of_le I.lt k.size, h1, h2, h3, h4, I.res.keep k hp3, I.keep.trans k⟩
theorem DrawI.can6 (I : DrawI w wa p q gL b0 s acc A c) (hg : wa.grownBy w6 (Value.slice A acc.length c).ownBlock) : (∃ v, w6.cell? ⟨q, 1, none⟩ = some v) ∧ w6.frozen? ⟨q, 1, none⟩ = false := by
  have C := I.can.grown hg I.nq
  exact ⟨C.2.2.1, C.2.2.2.2⟩
theorem DrawI.push (I : DrawI w wa p q gL b0 s acc A c) (x : RuleV) {g cap H : Nat} (hg : wa.grownBy w6 (Value.slice A acc.length c).ownBlock)
    (ho : w6.ownsRow b0 55 2 (.slice (some ⟨g, 0, none⟩) (acc.length + 1) cap) (acc.length + 1) (acc.flatMap rv ++ rv x)) (hor : (Value.slice A acc.length c).ownBlock = some g ∨ g = H) (hH : H = wa.heap.size) :
    DrawI w (w6.setCell ⟨q, 1, none⟩ (.slice (some ⟨g, 0, none⟩) (acc.length + 1) cap)) p q gL b0 s (acc ++ [x]) (some ⟨g, 0, none⟩) cap ∧ Keep (fun b => w.heap.size < b) wa (w6.setCell ⟨q, 1, none⟩ (.slice (some ⟨g, 0, none⟩) (acc.length + 1) cap)) := by
  have h1 := I.pb; have h2 := I.hb; have h3 := I.hq; have h4 := I.hg
  have hlt := I.own.lt
  have n0 : (Value.slice A acc.length c).ownBlock ≠ some w.heap.size := fun e => by have := (hlt _ e).1; omega
  have Z := I.res.grown hg n0
  have B := I.box.grown hg I.nq
  have C := I.can.grown hg I.nq
  have hqg : g ≠ q := fun e => by
    rcases hor with h | h
    · exact I.nq (by rw [h, e])
    · have := I.box.lt; omega
  have hgg : g ≠ gL := fun e => by
    rcases hor with h | h
    · exact I.ng (by rw [h, e])
    · have := I.lt; omega
  have hfm : (acc ++ [x]).flatMap rv = acc.flatMap rv ++ rv x := by simp
  have hln : (acc ++ [x]).length = acc.length + 1 := by simp
  have kk : Keep (fun b => w.heap.size < b) wa w6 := ⟨hg.os, hg.tape, hg.output, hg.size, fun k hk hs => hg.block k hk (fun e => hs (by have := (hlt k e.symm).1; omega))⟩
  have kk2 : Keep (fun b => w.heap.size < b) wa (w6.setCell ⟨q, 1, none⟩ (.slice (some ⟨g, 0, none⟩) (acc.length + 1) cap)) := kk.setCell (p := ⟨q, 1, none⟩) (.inl (by show w.heap.size < q; omega)) _
  refine ⟨⟨⟨by simpa [World.setCell] using B.lt, (World.cell?_setCell_other _ _ _ _ (by simp)).trans B.c0, ?_⟩, C.set _ _, fun j t h => (far_cell (by omega)).trans ((World.cell?_of_block (hg.block gL I.lt (fun e => I.ng e.symm))).trans (I.lets j t h)), ?_, fun e => hqg (by simpa [Value.ownBlock] using e), fun e => hgg (by simpa [Value.ownBlock] using e),
    by have := I.lt; have := hg.size; simp [World.setCell]; omega, h1, h2, h3, h4, Z.set _ _, ⟨kk2.os.trans I.keep.os, kk2.tape.trans I.keep.tape, kk2.output.trans I.keep.output, Nat.le_trans I.keep.size kk2.size, fun k hk hs => (kk2.block k (Nat.lt_of_lt_of_le hk I.keep.size) (by omega)).trans (I.keep.block k hk hs)⟩⟩, kk2⟩
  · rw [hln]; exact World.cell?_setCell_same _ _ _ B.c1
  · rw [hln, hfm]
    exact ownsRow_setCell_other ho (fun e => hqg (by simpa [Value.ownBlock] using e)) _
end
theorem Src.keep {S : Nat → Prop} {w w' : World} {p : Nat} {A : Option Addr} {L c k : Nat} (h : Src w p A L c k) (b : Keep S w w') (hs : ¬ S p) : Src w' p A L c k := by
  obtain ⟨hlt, c0, c1, ⟨z, hz, c2⟩, f1, f2, hne⟩ := h
  have hb := b.block p hlt hs
  exact ⟨Nat.lt_of_lt_of_le hlt b.size, (World.cell?_of_block hb).trans c0, (World.cell?_of_block hb).trans c1, ⟨z, hz, (World.cell?_of_block hb).trans c2⟩, (World.frozen?_of_block (a := ⟨p, 1, none⟩) hb).trans f1, (World.frozen?_of_block (a := ⟨p, 2, none⟩) hb).trans f2, hne⟩
/-- What a drawn grammar is. -/
def DrawR (w : World) (p : Nat) (e : Ending) (w' : World) : Prop := ∃ s A c rs, e = .returned (.agg #[.string s, .slice A rs.length c]) ∧ DG s rs ∧ RRd w' A rs ∧ (∀ b o, A = some ⟨b, o, none⟩ → w.heap.size < b) ∧ Keep (· = p) w w'
theorem keep_newG {w w1 w2 : World} {p : Nat} (K : Keep (· = p) w w1) (k : Below w1.heap.size w1 w2) : Keep (· = p) w w2 := K.trans (Keep.of_below k)
set_option maxRecDepth 100000 in
set_option maxHeartbeats 4000000 in
theorem drawOk_any (w : World) (p : Nat) (A : Option Addr) (L c : Nat) (hS : Src w p A L c 0) (hB : BRd w A L) (hL : L ≤ maxLen) :
    Calls Try.prog 78 #[.pointer (some ⟨p, 0, none⟩)] w (DrawR w p) := by
  have hp := hS.lt
  have hne := hS.ne
  have S1 := hS.below (below_alloc w (.cells #[.string ⟨#[]⟩, .slice none 0 0] 25))
  have B1 := hB.below (below_alloc w (.cells #[.string ⟨#[]⟩, .slice none 0 0] 25))
  have HSB := Lib.hid (And.intro S1 B1)
  have HNE := Lib.hid hne
  clear S1 B1 hS hne
  go_enter Try.func78, Try.ntmps78
  go_wp2_with fail
  refine (pick_any _ p A L c 0 6 HSB.out.1 HSB.out.2 (by decide) hL (by decide) (by decide)).mono ?_
  rintro e w1 ⟨x, rfl, hx, K, S⟩
  have K1 : Keep (· = p) w w1 := (Keep.of_below (below_alloc w _)).trans K
  have C1 : Can w1 w.heap.size := by
    have h := can_new w (.string ⟨#[]⟩) (.slice none 0 0) 25 _ rfl
    obtain ⟨h0, ⟨v, h1⟩, ⟨u, h2⟩, h3, h4⟩ := h
    have hn : ¬ w.heap.size = p := by omega
    have hb := K.block w.heap.size h0 hn
    exact ⟨Nat.lt_of_lt_of_le h0 K.size, ⟨v, (World.cell?_of_block hb).trans h1⟩, ⟨u, (World.cell?_of_block hb).trans h2⟩, (World.frozen?_of_block hb).trans h3, (World.frozen?_of_block hb).trans h4⟩
  have HS1 := Lib.hid S
  clear K S HSB
  by_cases x0 : x = 0
  · subst x0
    go_wp2_with fail
    refine (specKoch _).mono ?_
    rintro e w2 ⟨g, cg, rfl, hg1, hg2, hr, _, k⟩
    have C2 := C1.below k
    obtain ⟨q0, q1⟩ := C2.read (.string bushS) (.slice (some ⟨g, 0, none⟩) kochR.length cg)
    have HQ := Lib.hid (And.intro q0 q1)
    have HR := Lib.hid hr
    have HK := Lib.hid (keep_newG K1 k)
    obtain ⟨_, ⟨v0, y0⟩, ⟨v1, y1⟩, zf0, zf1⟩ := C2
    have hgw : w.heap.size < g := by have := C1.1; omega
    clear q0 q1 hr k K1 C1 HS1
    go_wp2
    obtain ⟨q0, q1⟩ := HQ.out
    refine bodyPost_ret (v := .agg #[.string bushS, .slice (some ⟨g, 0, none⟩) kochR.length cg]) (by simp [results, Try.results78, go_sem, q0, q1]) rfl ?_
    refine ⟨_, _, _, _, rfl, koch_DG, HR.out.keep (keep_two _ _ _ _) (fun b o e h => by injection e with e; injection e with e1 _; (have h' : b = w.heap.size := h); omega), fun b o e => by injection e with e; injection e with e1 _; omega, (HK.out.setCell (.inr (Nat.le_refl _)) _).setCell (.inr (Nat.le_refl _)) _⟩
  by_cases x1 : x = 1
  · subst x1
    go_wp2_with fail
    refine (specDragon _).mono ?_
    rintro e w2 ⟨g, cg, rfl, hg1, hg2, hr, _, k⟩
    have C2 := C1.below k
    obtain ⟨q0, q1⟩ := C2.read (.string dragonS) (.slice (some ⟨g, 0, none⟩) dragonR.length cg)
    have HQ := Lib.hid (And.intro q0 q1)
    have HR := Lib.hid hr
    have HK := Lib.hid (keep_newG K1 k)
    obtain ⟨_, ⟨v0, y0⟩, ⟨v1, y1⟩, zf0, zf1⟩ := C2
    have hgw : w.heap.size < g := by have := C1.1; omega
    clear q0 q1 hr k K1 C1 HS1
    go_wp2
    obtain ⟨q0, q1⟩ := HQ.out
    refine bodyPost_ret (v := .agg #[.string dragonS, .slice (some ⟨g, 0, none⟩) dragonR.length cg]) (by simp [results, Try.results78, go_sem, q0, q1]) rfl ?_
    refine ⟨_, _, _, _, rfl, dragon_DG, HR.out.keep (keep_two _ _ _ _) (fun b o e h => by injection e with e; injection e with e1 _; (have h' : b = w.heap.size := h); omega), fun b o e => by injection e with e; injection e with e1 _; omega, (HK.out.setCell (.inr (Nat.le_refl _)) _).setCell (.inr (Nat.le_refl _)) _⟩
  by_cases x2 : x = 2
  · subst x2
    go_wp2_with fail
    refine (specBush _).mono ?_
    rintro e w2 ⟨g, cg, rfl, hg1, hg2, hr, _, k⟩
    have C2 := C1.below k
    obtain ⟨q0, q1⟩ := C2.read (.string bushS) (.slice (some ⟨g, 0, none⟩) bushR.length cg)
    have HQ := Lib.hid (And.intro q0 q1)
    have HR := Lib.hid hr
    have HK := Lib.hid (keep_newG K1 k)
    obtain ⟨_, ⟨v0, y0⟩, ⟨v1, y1⟩, zf0, zf1⟩ := C2
    have hgw : w.heap.size < g := by have := C1.1; omega
    clear q0 q1 hr k K1 C1 HS1
    go_wp2
    obtain ⟨q0, q1⟩ := HQ.out
    refine bodyPost_ret (v := .agg #[.string bushS, .slice (some ⟨g, 0, none⟩) bushR.length cg]) (by simp [results, Try.results78, go_sem, q0, q1]) rfl ?_
    refine ⟨_, _, _, _, rfl, bush_DG, HR.out.keep (keep_two _ _ _ _) (fun b o e h => by injection e with e; injection e with e1 _; (have h' : b = w.heap.size := h); omega), fun b o e => by injection e with e; injection e with e1 _; omega, (HK.out.setCell (.inr (Nat.le_refl _)) _).setCell (.inr (Nat.le_refl _)) _⟩
  have x0' : ¬ (x : Int) = 0 := by omega
  have x1' : ¬ (x : Int) = 1 := by omega
  have x2' : ¬ (x : Int) = 2 := by omega
  go_wp2_with fail
  obtain ⟨v1, hv1⟩ : ∃ v, v = w1.alloc (.cells #[.string ⟨#[70]⟩, .string ⟨#[70, 88]⟩, .string ⟨#[88]⟩, .string ⟨#[70, 43, 70]⟩, .string ⟨#[]⟩] 9) := ⟨_, rfl⟩
  have ka : Below w1.heap.size w1 v1 := by rw [hv1]; exact below_alloc _ _
  have hT : ∀ i t, startsL[i]? = some t → v1.cell? ⟨w1.heap.size, i, none⟩ = some (.string t) := by rw [hv1]; exact cells_texts w1 startsL _
  have hgl : w1.heap.size < v1.heap.size := by rw [hv1]; simp
  rw [← hv1]
  clear hv1
  have B1 : BRd v1 A L := (hB.keep K1 (fun b o hl e h => HNE.out b o hl e h)).below ka
  have hpw : w1.heap.size ≠ p := by have := K1.size; omega
  refine (text_any v1 p A L c 1 (HS1.out.below ka) B1 (by decide) hL w1.heap.size 5 startsL (by decide) (by decide) hgl hpw hT).mono ?_
  rintro e w2 ⟨s, rfl, hs, K2, S2⟩
  go_wp2_with fail
  have Ks : Keep (· = p) w w2 := (K1.trans (Keep.of_below ka)).trans K2
  have Cs : Can w2 w.heap.size := (C1.below ka).keep K2 (by omega)
  have zs := Ks.size
  have zc := Cs.1
  obtain ⟨w3, hw3⟩ : ∃ v, v = ((w2.alloc (.cells #[] 55)).alloc (.cells #[.string s, .slice (some ⟨w2.heap.size, 0, none⟩) 0 0] 25)).alloc (.cells #[.string ⟨#[65]⟩, .string ⟨#[70]⟩, .string ⟨#[88]⟩, .string ⟨#[89]⟩] 9) := ⟨_, rfl⟩
  have k3 : Below w2.heap.size w2 w3 := by rw [hw3]; exact Below.step (Below.step (below_alloc _ _) (below_alloc _ _)) (below_alloc _ _)
  have I3 : DrawI w w3 p (w2.heap.size + 1) (w2.heap.size + 1 + 1) w2.heap.size s [] (some ⟨w2.heap.size, 0, none⟩) 0 := by
    have q1 : w2.heap.size + 1 = (w2.alloc (.cells #[] 55)).heap.size := by simp
    have q2 : w2.heap.size + 1 + 1 = ((w2.alloc (.cells #[] 55)).alloc (.cells #[.string s, .slice (some ⟨w2.heap.size, 0, none⟩) 0 0] 25)).heap.size := by simp
    refine ⟨?_, ?_, ?_, ?_, fun e => by simp [Value.ownBlock] at e, fun e => by (have e' : w2.heap.size = w2.heap.size + 1 + 1 := by simpa [Value.ownBlock] using e); omega, by rw [hw3]; simp, hp, by omega, by omega, by omega, Cs.below k3, Ks.trans (Keep.of_below k3)⟩
    · rw [hw3]; exact (box_new _ _ _ _ _ _ _ q1).below (below_alloc _ _)
    · rw [hw3]; exact (can_new _ _ _ _ _ q1).below (below_alloc _ _)
    · rw [hw3]
      intro j t h
      rw [q2]
      exact cells_texts _ letL _ j t h
    · rw [hw3]; exact ((World.ownsRow_made (e := 55) (size := 2) w2 #[] 0 (Nat.le_refl _) (Nat.zero_le _) rfl).alloc _).alloc _
  have HI3 := Lib.hid I3
  have HS3 := Lib.hid (S2.below k3)
  rw [← hw3]
  obtain ⟨q, hq⟩ : ∃ q, q = w2.heap.size + 1 := ⟨_, rfl⟩
  obtain ⟨gL, hgL⟩ : ∃ q, q = w2.heap.size + 1 + 1 := ⟨_, rfl⟩
  obtain ⟨b0, hb0⟩ : ∃ q, q = w2.heap.size := ⟨_, rfl⟩
  rw [← hgL, ← hq, ← hb0] at HI3
  rw [← hgL, ← hq]
  clear hw3 k3 I3 S2 hq hgL hb0 Ks Cs zs zc K1 C1 HS1 K2 ka hT hgl B1 hpw x0' x1' x2' x0 x1 x2
  go_loopw [5] (fun iv wr => ∃ (i k : Nat) (acc : List RuleV) (Av : Option Addr) (cv : Nat), i ≤ 4 ∧ iv = .int .i64 i ∧ Hid (AccOk i acc) ∧ Hid (DrawI w wr p q gL b0 s acc Av cv) ∧ k ≤ 2 + 2 * i ∧ Hid (Src wr p A L c k)) (fun iv _ => 4 - (intOf iv).toNat)
  case atStart => exact ⟨0, 2, [], _, _, by decide, rfl, Lib.hid ⟨by simp [Srt], by simp, by simp⟩, HI3, by decide, HS3⟩
  case round =>
    clear HI3 HS3
    obtain ⟨i, k, acc, Av, cv, hi, rfl, HA, HI, hk, HS⟩ := hrel
    by_cases hlt : i < 4
    · go_wp2_with fail
      refine (one_any _ p A L c k 2 HS.out (hB.keep HI.out.keep (fun b o hl e h => HNE.out b o hl e h)) (by omega) hL (by decide) (by decide)).mono ?_
      rintro e w5 ⟨b, rfl, K5, S5⟩
      have HI5 := Lib.hid (HI.out.keep' K5)
      have HS5 := Lib.hid S5
      clear K5 S5 HI HS
      cases b
      · go_wp2_with fail
        go_roundw
        case rel => exact ⟨i + 1, k + 1, acc, Av, cv, by omega, by go_num, Lib.hid (HA.out.skip hlt), HI5, by omega, HS5⟩
        case measure => simp [intOf]; omega
      · obtain ⟨i0, hi0, hz0, hz1, hz2⟩ := info_parts info.rule
        have hB5 : BRd w5 A L := hB.keep HI5.out.keep (fun b o hl e h => HNE.out b o hl e h)
        obtain ⟨li, hli⟩ : ∃ li, letL[i]? = some li := ⟨_, List.getElem?_eq_getElem (show i < letL.length from hlt)⟩
        have HL := Lib.hid hli
        have HGD : Hid (letL.getD i ⟨#[]⟩ = li) := Lib.hid (by rw [List.getD_eq_getElem?_getD, hli]; rfl)
        have c5 := HI5.out.lets i li hli
        obtain ⟨b_, d0, d1⟩ := HI5.out.box
        have g_ := HI5.out.lt
        have hb5 : b0 ≤ w5.heap.size := by have := HI5.out.hq; omega
        have hal : acc.length ≤ 4 := by have := HA.out.len; omega
        have hpz : w5.heap.size ≠ p := by have := HI5.out.pb; have := HI5.out.hb; have := HI5.out.hq; omega
        clear hli
        go_wp2_with fail
        go_region_law (first
          | (refine step_append_lies _ rfl _ _ 23 rfl b0 55 i0 (.agg #[.string ⟨#[]⟩, .string ⟨#[]⟩]) 2 32 Try.underlying23 hi0 hz0 hz1 hz2 rfl (by decide) (.slice Av acc.length cv) acc.length (acc.flatMap rv) (by simp [Act.eval]) (by exact (HI6.out.keep' (Keep.of_below (below_alloc _ _))).own) ⟨w6.heap.size, 0, none⟩ 1 1 (rv (li, t)) (by simp [Act.eval]) rfl (by exact World.news_of_block (heap_alloc_new _ _)) (rule_one _) (by decide) (by unfold maxLen; omega) (by omega) (by exact Nat.le_trans hb6 (size_alloc_lt _ _)) _ rfl ?_; intro g cap w9 ho9 hg9 hor9 hlt9; obtain ⟨⟨vv, hvv⟩, hff⟩ := (HI6.out.keep' (Keep.of_below (below_alloc _ _))).can6 hg9; have I9 := Lib.hid ((HI6.out.keep' (Keep.of_below (below_alloc _ _))).push (li, t) hg9 ho9 hor9 rfl); have S9 := Lib.hid ((HS6.out.below (below_alloc _ _)).keep I9.out.2 (by have := HI6.out.pb; omega)); clear ho9 hg9 hor9 hlt9)
          | (go_simp; refine (text_any _ p A L c (k + 1) (by exact HS5.out.below ((Below.refl _ _).drew.alloc (Nat.le_refl _) _)) (by exact hB5.below ((Below.refl _ _).drew.alloc (Nat.le_refl _) _)) (by omega) hL w5.heap.size 7 textsL (by decide) (by decide) (by simp) hpz (by exact cells_texts w5.drew textsL _)).mono ?_; rintro e w6 ⟨t, rfl, ht, K6, S6⟩; have HI6 := Lib.hid ((HI5.out.keep' (Keep.of_below ((Below.refl _ _).drew.alloc (Nat.le_refl _) _))).keep' K6); have HS6 := Lib.hid S6; have HT := Lib.hid ht; have c6 := HI6.out.lets i li HL.out; have d6 := HI6.out.box.c1; have b6 := HI6.out.box.lt; have g6 := HI6.out.lt; have hb6 : b0 ≤ w6.heap.size := (by have := HI6.out.hq; omega); clear K6 S6 ht))
        all_goals
          go_wp2_with fail
          go_roundw
          case rel => exact ⟨i + 1, k + 1 + 1, acc ++ [(li, t)], _, _, by omega, by go_num, Lib.hid (by have h := HA.out.push hlt HT.out; rw [HGD.out] at h; exact h), Lib.hid I9.out.1, by omega, S9⟩
          case measure => simp [intOf]; omega
    · obtain rfl : i = 4 := by omega
      have HD := Lib.hid (HA.out.done hs)
      obtain ⟨b_, d0, d1⟩ := HI.out.box
      obtain ⟨A', c', eA, hRd⟩ := own_rrd HI.out.own
      injection eA with eA1 eAn eA2
      clear eAn
      subst eA1; subst eA2
      have Z := HI.out.res
      obtain ⟨n, hn⟩ : ∃ n, n = acc.length := ⟨_, rfl⟩
      rw [← hn] at d1
      have HN := Lib.hid hn
      clear hn
      obtain ⟨q0, q1⟩ := Z.read (.string s) (.slice Av n cv)
      have HQ := Lib.hid (And.intro q0 q1)
      have HR := Lib.hid hRd
      have hlw := HI.out.own.lt
      have HLW := Lib.hid hlw
      obtain ⟨_, ⟨v0, y0⟩, ⟨v1, y1⟩, zf0, zf1⟩ := Z
      clear q0 q1 hRd hlw HA HS
      go_wp2
      obtain ⟨q0, q1⟩ := HQ.out
      refine bodyPost_ret (v := .agg #[.string s, .slice Av n cv]) (by simp [results, Try.results78, go_sem, q0, q1]) rfl ?_
      refine ⟨s, Av, cv, acc, by rw [HN.out], HD.out, HR.out.keep (keep_two _ _ _ _) (fun b o e h => ?_), fun b o e => by (have h1 := (HLW.out b (by rw [e]; rfl)).1); have h2 := HI.out.hb; omega, (HI.out.keep.setCell (.inr (Nat.le_refl _)) _).setCell (.inr (Nat.le_refl _)) _⟩
      have h1 := (HLW.out b (by rw [e]; rfl)).1
      have h2 := HI.out.hb
      have h3 : b = w.heap.size := h
      omega
end Go.Proofs.Ytfblpibioegmkaa
