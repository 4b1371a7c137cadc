/- A sheet drawn. -/
import Derived.Test.YtcdipgkdbannmaaSrc
import Derived.Test.YtcdipgkdbannmaaShK
import Derived.Test.YtcdipgkdbannmaaIslV
import Derived.Deep.AppendLies
import Derived.Deep.RegionLaw
namespace Go.Proofs.Ytcdipgkdbannmaa
open Go.RowKit

/-- What a drawn sheet is. -/
def DSh (W H : Nat) (xs : List Nat) : Prop := 1 ≤ W ∧ W ≤ 6 ∧ 1 ≤ H ∧ H ≤ 6 ∧ xs.length = W * H ∧ ∀ x ∈ xs, ∃ i : Nat, i < 33 ∧ cn .f32 x = hq ((i : Int) - 16)
/-- A block of three cells that can be read and written. -/
structure Can3 (w : World) (p : Nat) : Prop where
  lt : p < w.heap.size
  c0 : ∃ v, w.cell? ⟨p, 0, none⟩ = some v
  c1 : ∃ v, w.cell? ⟨p, 1, none⟩ = some v
  c2 : ∃ v, w.cell? ⟨p, 2, none⟩ = some v
  f0 : w.frozen? ⟨p, 0, none⟩ = false
  f1 : w.frozen? ⟨p, 1, none⟩ = false
  f2 : w.frozen? ⟨p, 2, none⟩ = false
section
variable {w w' : World} {p : Nat}
theorem Can3.of_block (h : Can3 w p) (hz : w.heap.size ≤ w'.heap.size) (hb : w'.heap[p]? = w.heap[p]?) : Can3 w' p := by
  obtain ⟨h0, ⟨a, ha⟩, ⟨b, hb'⟩, ⟨c, hc⟩, x, y, z⟩ := h
  exact ⟨Nat.lt_of_lt_of_le h0 hz, ⟨a, (World.cell?_of_block (w := w) (a := ⟨p, 0, none⟩) hb).trans ha⟩, ⟨b, (World.cell?_of_block (w := w) (a := ⟨p, 1, none⟩) hb).trans hb'⟩, ⟨c, (World.cell?_of_block (w := w) (a := ⟨p, 2, none⟩) hb).trans hc⟩,
    (World.frozen?_of_block (w := w) (a := ⟨p, 0, none⟩) hb).trans x, (World.frozen?_of_block (w := w) (a := ⟨p, 1, none⟩) hb).trans y, (World.frozen?_of_block (w := w) (a := ⟨p, 2, none⟩) hb).trans z⟩
theorem Can3.keep {S : Nat → Prop} (h : Can3 w p) (k : Keep S w w') (hs : ¬ S p) : Can3 w' p := h.of_block k.size (k.block p h.lt hs)
theorem Can3.below (h : Can3 w p) (k : Below w.heap.size w w') : Can3 w' p := h.of_block k.size (k.block p h.lt)
theorem Can3.grown {row : Option Nat} (h : Can3 w p) (k : w.grownBy w' row) (hn : row ≠ some p) : Can3 w' p := h.of_block k.size (k.block p h.lt (fun e => hn e.symm))
theorem Can3.set (h : Can3 w p) (a : Addr) (x : Value) : Can3 (w.setCell a x) p := by
  obtain ⟨h0, ⟨u0, h1⟩, ⟨u1, h2⟩, ⟨u2, h3⟩, f0, f1, f2⟩ := h
  refine ⟨by simpa [World.setCell] using h0, ?_, ?_, ?_, by simpa using f0, by simpa using f1, by simpa using f2⟩
  · by_cases e : a = ⟨p, 0, none⟩
    · subst e; exact ⟨x, World.cell?_setCell_same _ _ _ h1⟩
    · exact ⟨u0, (World.cell?_setCell_other _ _ _ _ e).trans h1⟩
  · by_cases e : a = ⟨p, 1, none⟩
    · subst e; exact ⟨x, World.cell?_setCell_same _ _ _ h2⟩
    · exact ⟨u1, (World.cell?_setCell_other _ _ _ _ e).trans h2⟩
  · by_cases e : a = ⟨p, 2, none⟩
    · subst e; exact ⟨x, World.cell?_setCell_same _ _ _ h3⟩
    · exact ⟨u2, (World.cell?_setCell_other _ _ _ _ e).trans h3⟩
theorem Can3.read (h : Can3 w p) (x y z : Value) : (((w.setCell ⟨p, 0, none⟩ x).setCell ⟨p, 1, none⟩ y).setCell ⟨p, 2, none⟩ z).cell? ⟨p, 0, none⟩ = some x ∧ (((w.setCell ⟨p, 0, none⟩ x).setCell ⟨p, 1, none⟩ y).setCell ⟨p, 2, none⟩ z).cell? ⟨p, 1, none⟩ = some y ∧ (((w.setCell ⟨p, 0, none⟩ x).setCell ⟨p, 1, none⟩ y).setCell ⟨p, 2, none⟩ z).cell? ⟨p, 2, none⟩ = some z := by
  obtain ⟨_, ⟨v, h1⟩, ⟨u, h2⟩, ⟨t, h3⟩, _⟩ := h
  refine ⟨?_, ?_, ?_⟩
  · rw [World.cell?_setCell_other _ _ _ _ (by simp), World.cell?_setCell_other _ _ _ _ (by simp)]
    exact World.cell?_setCell_same _ _ _ h1
  · rw [World.cell?_setCell_other _ _ _ _ (by simp)]
    exact World.cell?_setCell_same _ _ _ ((World.cell?_setCell_other _ _ _ _ (by simp)).trans h2)
  · exact World.cell?_setCell_same _ _ _ ((World.cell?_setCell_other _ _ _ _ (by simp)).trans ((World.cell?_setCell_other _ _ _ _ (by simp)).trans h3))
theorem can3_new (w : World) (u v x : Value) (t : TypeId) (p : Nat) (hp : p = w.heap.size) : Can3 (w.alloc (.cells #[u, v, x] t)) p := by
  subst hp
  exact ⟨by simp, ⟨u, by simp⟩, ⟨v, by simp⟩, ⟨x, by simp⟩, by simp, by simp, by simp⟩
end
theorem keep_three (w : World) (p : Nat) (x y z : Value) : Keep (· = p) w (((w.setCell ⟨p, 0, none⟩ x).setCell ⟨p, 1, none⟩ y).setCell ⟨p, 2, none⟩ z) :=
  (((Keep.refl (· = p) w).setCell (p := ⟨p, 0, none⟩) (.inl rfl) x).setCell (p := ⟨p, 1, none⟩) (.inl rfl) y).setCell (p := ⟨p, 2, none⟩) (.inl rfl) z
theorem Src.keep {S : Nat → Prop} {w w' : World} {p : Nat} {A : Option Addr} {L c k : Nat} (h : Src w p A L c k) (b : Keep S w w') (hs : ¬ S p) : Src w' p A L c k := by
  obtain ⟨hlt, c0, c1, ⟨z, hz, c2⟩, f1, f2, hne⟩ := h
  have hb := b.block p hlt hs
  exact ⟨Nat.lt_of_lt_of_le hlt b.size, (World.cell?_of_block hb).trans c0, (World.cell?_of_block hb).trans c1, ⟨z, hz, (World.cell?_of_block hb).trans c2⟩, (World.frozen?_of_block (a := ⟨p, 1, none⟩) hb).trans f1, (World.frozen?_of_block (a := ⟨p, 2, none⟩) hb).trans f2, hne⟩
/-- In the loop that draws heights. -/
structure ShIn (w wr : World) (p q b0 : Nat) (W H : Nat) (acc : List Nat) (A : Option Addr) (c : Nat) : Prop where
  box : BoxS wr q W H A acc.length c
  can : Can3 wr q
  own : wr.ownsRow b0 26 1 (.slice A acc.length c) acc.length (acc.map fv)
  hp : w.heap.size < p
  hq : p < q
  hb : q < b0
  hz : b0 ≤ wr.heap.size
  res : Can3 wr w.heap.size
  keep : Below w.heap.size w wr
section
variable {w wr wa w6 : World} {p q b0 W H : Nat} {acc : List Nat} {A : Option Addr} {c : Nat}
theorem ShIn.keep' (I : ShIn w wr p q b0 W H acc A c) (k : Keep (· = p) wr wa) : ShIn w wa p q b0 W H acc A c := by
  have h1 := I.hp; have h2 := I.hq; have h3 := I.hb; have h4 := I.hz; have h5 := I.keep.size
  have hp1 : ¬ q = p := by omega
  have hp3 : ¬ w.heap.size = p := by omega
  exact ⟨I.box.keep k hp1, I.can.keep k hp1, own_keepG I.own k (fun g e h => by have := (I.own.lt g e).1; (have h' : g = p := h); omega), h1, h2, h3, Nat.le_trans h4 k.size, I.res.keep k hp3, Keep.below I.keep k h5 (fun k h => by (have h' : k = p := h); omega)⟩
theorem ShIn.nq (I : ShIn w wr p q b0 W H acc A c) : (Value.slice A acc.length c).ownBlock ≠ some q := fun e => by have := (I.own.lt _ e).1; have := I.hb; omega
theorem ShIn.push (I : ShIn w wa p q b0 W H acc A c) (x : Nat) {g cap Hn : Nat} (hg : wa.grownBy w6 (Value.slice A acc.length c).ownBlock)
    (ho : w6.ownsRow b0 26 1 (.slice (some ⟨g, 0, none⟩) (acc.length + 1) cap) (acc.length + 1) (acc.map fv ++ [fv x])) (hor : (Value.slice A acc.length c).ownBlock = some g ∨ g = Hn) (hH : Hn = wa.heap.size) :
    ShIn w (w6.setCell ⟨q, 2, none⟩ (.slice (some ⟨g, 0, none⟩) (acc.length + 1) cap)) p q b0 W H (acc ++ [x]) (some ⟨g, 0, none⟩) cap ∧ Keep (fun b => p < b) wa (w6.setCell ⟨q, 2, none⟩ (.slice (some ⟨g, 0, none⟩) (acc.length + 1) cap)) := by
  have h1 := I.hp; have h2 := I.hq; have h3 := I.hb; have h4 := I.hz; have h5 := I.keep.size
  have hlt := I.own.lt
  have nq : (Value.slice A acc.length c).ownBlock ≠ some q := fun e => by have := (hlt _ e).1; omega
  have nr : (Value.slice A acc.length c).ownBlock ≠ some w.heap.size := fun e => by have := (hlt _ e).1; omega
  have hqg : g ≠ q := fun e => by
    rcases hor with h | h
    · exact nq (by rw [h, e])
    · have := I.box.lt; omega
  have hbq := hg.block q I.box.lt (fun e => nq e.symm)
  have hfm : (acc ++ [x]).map fv = acc.map fv ++ [fv x] := by simp
  have hln : (acc ++ [x]).length = acc.length + 1 := by simp
  have kk : Keep (fun b => p < b) wa w6 := ⟨hg.os, hg.tape, hg.output, hg.size, fun k hk hs => hg.block k hk (fun e => hs (by have := (hlt k e.symm).1; omega))⟩
  have kk2 : Keep (fun b => p < b) wa (w6.setCell ⟨q, 2, none⟩ (.slice (some ⟨g, 0, none⟩) (acc.length + 1) cap)) := kk.setCell (p := ⟨q, 2, none⟩) (.inl (by show p < q; omega)) _
  have hc2 : w6.cell? ⟨q, 2, none⟩ = some (.slice A acc.length c) := (World.cell?_of_block hbq).trans I.box.c2
  refine ⟨⟨⟨by have := I.box.lt; have := hg.size; simp [World.setCell]; omega, (World.cell?_setCell_other _ _ _ _ (by simp)).trans ((World.cell?_of_block hbq).trans I.box.c0), (World.cell?_setCell_other _ _ _ _ (by simp)).trans ((World.cell?_of_block hbq).trans I.box.c1), ?_⟩,
    (I.can.grown hg nq).set _ _, ?_, h1, h2, h3, by have := hg.size; simp [World.setCell]; omega, (I.res.grown hg nr).set _ _, Keep.below I.keep kk2 h5 (fun k h => by (have h' : p < k := h); omega)⟩, kk2⟩
  · rw [hln]; exact World.cell?_setCell_same _ _ _ hc2
  · rw [hln, hfm]
    exact ownsRow_setCell_other ho (fun e => hqg (by simpa [Value.ownBlock] using e)) _
end
set_option maxRecDepth 100000 in
set_option maxHeartbeats 4000000 in
theorem b10Sheet_any (A : Option Addr) (L c : Nat) (w : World) (hB : BRd w A L) (hL : L ≤ maxLen) :
    Calls Try.prog 28 #[.slice A L c] w fun e w' => ∃ (W H : Nat) (A' : Option Addr) (c' : Nat) (xs : List Nat), e = .returned (shv W H A' xs.length c') ∧ DSh W H xs ∧ FRd w' A' xs ∧ Below w.heap.size w w' := by
  obtain ⟨i0, hi0, hz0, hz1, hz2⟩ := info_parts info.f32
  obtain ⟨w0, hw0⟩ : ∃ w0, w0 = w.alloc (.cells #[.int .i64 0, .int .i64 0, .slice none 0 0] 29) := ⟨_, rfl⟩
  have ka : Below w.heap.size w w0 := by rw [hw0]; exact below_alloc _ _
  have hz0' : w.heap.size < w0.heap.size := by rw [hw0]; simp
  have Cr : Can3 w0 w.heap.size := by rw [hw0]; exact can3_new _ _ _ _ _ _ rfl
  have B0 := hB.below ka
  have hbw : ∀ b o, 0 < L → A = some ⟨b, o, none⟩ → b < w.heap.size := fun b o hl e => hB.lt hl e
  have HW := Lib.hid hw0
  have HB0 := Lib.hid hB
  clear hw0 hB
  go_enter Try.func28, Try.ntmps28
  go_wp2_with fail
  rw [← HW.out]
  refine (from_any A L c _ B0).mono ?_
  rintro e w1 ⟨rfl, k1, S1⟩
  have B1 := B0.below k1
  have K1 := Below.step ka k1
  have Cr1 := Cr.below k1
  go_wp2_with fail
  refine (pick_any w1 _ A L c 0 6 S1 B1 (by decide) hL (by decide) (by decide)).mono ?_
  rintro e w2 ⟨x, rfl, hx, K2, S2⟩
  have hp := S1.lt
  have hne : ∀ b o, 0 < L → A = some ⟨b, o, none⟩ → ¬ b = w0.heap.size := S1.ne
  have B2 : BRd w2 A L := B1.keep K2 hne
  have Cr2 : Can3 w2 w.heap.size := Cr1.keep K2 (by omega)
  have KK2 : Below w.heap.size w w2 := Keep.below K1 K2 K1.size (fun k h => by (have h' : k = w0.heap.size := h); omega)
  go_wp2_with fail
  obtain ⟨v2, hv2⟩ : ∃ v, v = w2.alloc (.cells #[.int .i64 (1 + (x : Int)), .int .i64 0, .slice none 0 0] 29) := ⟨_, rfl⟩
  have kb : Below w2.heap.size w2 v2 := by rw [hv2]; exact below_alloc _ _
  have Cq : Can3 v2 w2.heap.size := by rw [hv2]; exact can3_new _ _ _ _ _ _ rfl
  have Xq : BoxS v2 w2.heap.size (1 + (x : Int)) 0 none 0 0 := by rw [hv2]; exact boxS_new _ _ _ _ _ _ _ _ rfl
  have B3 := B2.below kb
  have hpz : w0.heap.size < w2.heap.size := Nat.lt_of_lt_of_le hp K2.size
  have hzv : v2.heap.size = w2.heap.size + 1 := by rw [hv2]; simp
  rw [← hv2]
  clear hv2
  refine (pick_any v2 w0.heap.size A L c 1 6 (S2.below kb) B3 (by decide) hL (by decide) (by decide)).mono ?_
  rintro e w3 ⟨y, rfl, hy, K3, S3⟩
  have Cr3 : Can3 w3 w.heap.size := (Cr2.below kb).keep K3 (by omega)
  have Cq3 : Can3 w3 w2.heap.size := Cq.keep K3 (by omega)
  have Xq3 : BoxS w3 w2.heap.size (1 + (x : Int)) 0 none 0 0 := Xq.keep K3 (by omega)
  have KK3 : Below w.heap.size w w3 := Keep.below (KK2.trans (kb.mono KK2.size)) K3 (Nat.le_trans KK2.size kb.size) (fun k h => by (have h' : k = w0.heap.size := h); omega)
  have hz3 := K3.size
  have Iq : ShIn w (w3.setCell ⟨w2.heap.size, 1, none⟩ (.int .i64 (1 + (y : Int)))) w0.heap.size w2.heap.size v2.heap.size (1 + x) (1 + y) [] none 0 := by
    refine ⟨⟨by have := Cq3.lt; simpa [World.setCell] using this, (World.cell?_setCell_other _ _ _ _ (by simp)).trans (by rw [Xq3.c0]; rfl), World.cell?_setCell_same _ _ _ Xq3.c1, (World.cell?_setCell_other _ _ _ _ (by simp)).trans Xq3.c2⟩, Cq3.set _ _, ⟨rfl, .inl ⟨rfl, rfl⟩⟩, by omega, by omega, by omega, by simpa [World.setCell] using hz3, Cr3.set _ _, KK3.setCell (p := ⟨w2.heap.size, 1, none⟩) (by have := KK2.size; exact this) _⟩
  have HI := Lib.hid Iq
  have kq : Keep (· = w2.heap.size) w3 (w3.setCell ⟨w2.heap.size, 1, none⟩ (.int .i64 (1 + (y : Int)))) := (Keep.refl (· = w2.heap.size) w3).setCell (p := ⟨w2.heap.size, 1, none⟩) (.inl rfl) _
  have HS := Lib.hid (S3.keep kq (by omega))
  obtain ⟨_, x0, x1, x2⟩ := Xq3
  have f1 := Cq3.f1
  clear kq Iq S3 S2 S1 B3 B2 B1 B0 Cr3 Cr2 Cr1 Cr Cq KK3 KK2 K3 K2 K1 kb Xq Cq3
  go_wp2_with fail
  obtain ⟨W, hW⟩ : ∃ W, W = 1 + x := ⟨_, rfl⟩
  obtain ⟨H, hH⟩ : ∃ H, H = 1 + y := ⟨_, rfl⟩
  have hWH : W * H ≤ 36 := by
    have : W * H ≤ 6 * 6 := Nat.mul_le_mul (by omega) (by omega)
    exact this
  have ew : wrap64 ((1 + (x : Int)) * (1 + (y : Int))) = ((W * H : Nat) : Int) := by
    have e1 : (1 + (x : Int)) = (W : Int) := by omega
    have e2 : (1 + (y : Int)) = (H : Int) := by omega
    rw [e1, e2, ← Int.natCast_mul]
    unfold wrap64
    omega
  obtain ⟨N, hNN⟩ : ∃ N, N = W * H := ⟨_, rfl⟩
  rw [← hNN] at ew hWH
  rw [ew]
  obtain ⟨v3, hv3⟩ : ∃ v, v = w3.setCell ⟨w2.heap.size, 1, none⟩ (.int .i64 (1 + (y : Int))) := ⟨_, rfl⟩
  rw [← hW, ← hH, ← hv3] at HI
  rw [← hv3] at HS
  rw [← hv3]
  clear hv3 ew x0 x1 x2 f1
  obtain ⟨p, hpw⟩ : ∃ p, p = w0.heap.size := ⟨_, rfl⟩
  obtain ⟨q, hqw⟩ : ∃ q, q = w2.heap.size := ⟨_, rfl⟩
  obtain ⟨b0, hbw0⟩ : ∃ q, q = v2.heap.size := ⟨_, rfl⟩
  rw [← hpw, ← hqw, ← hbw0] at HI
  rw [← hpw] at HS hne
  rw [← hpw, ← hqw]
  clear hpw hqw hbw0 hz3 hzv hpz hp k1
  go_loopw [5] (fun iv wr => ∃ (i : Nat) (acc : List Nat) (Av : Option Addr) (cv : Nat), i ≤ N ∧ iv = .int .i64 i ∧ acc.length = N - i ∧ (∀ x ∈ acc, ∃ i : Nat, i < 33 ∧ cn .f32 x = hq ((i : Int) - 16)) ∧ Hid (ShIn w wr p q b0 W H acc Av cv) ∧ Hid (Src wr p A L c (2 + acc.length)) ) (fun iv _ => (intOf iv).toNat)
  case atStart => exact ⟨N, [], none, 0, by omega, rfl, by simp, by simp, HI, HS⟩
  case round =>
    clear HI HS
    obtain ⟨i, acc, Av, cv, hi, rfl, hl, hv, HI, HS⟩ := hrel
    by_cases h0 : 0 < i
    · go_wp2_with fail
      have hs2 := HI.out.box.c2
      have hbl := HI.out.box.lt
      have hbz := HI.out.hz
      have hal : acc.length < 36 := by omega
      have HL := Lib.hid hl
      have HWH := Lib.hid (And.intro hW (And.intro hH (And.intro hWH hNN)))
      clear hl hW hH hWH hNN
      have KB : ∀ (u : World) (n : Nat) (o : Obj), Keep (· = p) u ((u.drewN n).alloc o) := fun u n o => Keep.of_below (Below.step (below_drewN (Below.refl _ _) _) (below_alloc _ _))
      have KL : ∀ (u : World) (n : Nat) (o : Obj), Below u.heap.size u ((u.drewN n).alloc o) := fun u n o => Below.step (below_drewN (Below.refl _ _) _) (below_alloc _ _)
      have HWI := Lib.hid (show wrap64 ((i : Int) - 1) = ((i - 1 : Nat) : Int) by have := HWH.out.2.2.1; unfold wrap64; omega)
      go_region_law (first
          | (refine step_append_lies _ rfl _ _ 22 rfl b0 26 i0 (.float .f32 0) 1 4 Try.underlying22 hi0 hz0 hz1 hz2 rfl (by decide) (.slice Av acc.length cv) acc.length (acc.map fv) (by simp [Act.eval]) (by exact (HI6.out.keep' (KB _ _ _)).own) ⟨w6.heap.size, 0, none⟩ 1 1 [fv (fres .quo .f32 (floatOfInt .f32 (IntKind.i64.wrap ((z : Int) - 16))) 1082130432 w6)] (by simp [Act.eval]) rfl (by exact World.news_of_block (heap_alloc_new _ _)) (by simp [fv, Value.oneCell']) (by decide) (by unfold maxLen; omega) (by omega) (by exact Nat.le_trans HI6.out.hz (size_alloc_lt _ _)) _ rfl ?_; intro g cap w9 ho9 hg9 hor9 hlt9; obtain ⟨_, ⟨vv0, hvv0⟩, ⟨vv1, hvv1⟩, ⟨vv, hvv⟩, _, _, hff⟩ := (HI6.out.keep' (KB _ _ _)).can.grown hg9 HI6.out.nq; have I9 := Lib.hid ((HI6.out.keep' (KB _ _ _)).push _ hg9 ho9 hor9 rfl); have S9 := Lib.hid ((HS6.out.below (KL _ _ _)).keep I9.out.2 (by omega)); clear ho9 hg9 hor9 hlt9)
          | (go_simp; refine (pick_any _ p A L c (2 + acc.length) 33 (by exact HS.out.below (Below.refl _ _).drew) (by exact (HB0.out.below HI.out.keep).below (Below.refl _ _).drew) (by omega) hL (by decide) (by decide)).mono ?_; rintro e w6 ⟨z, rfl, hz, K6, S6⟩; have HI6 := Lib.hid ((HI.out.keep' (Keep.of_below (Below.refl _ _).drew)).keep' K6); have HS6 := Lib.hid S6; have d6 := HI6.out.box.c2; have b6 := HI6.out.box.lt; have d7 : ∀ (n : Nat) (o : Obj), ((w6.drewN n).alloc o).cell? ⟨q, 2, none⟩ = some (.slice Av acc.length cv) := fun n o => (HI6.out.keep' (KB _ n o)).box.c2; clear K6 S6))
      all_goals
        go_wp2_with fail
        go_roundw
        case rel =>
          have hl := HL.out
          refine ⟨i - 1, acc ++ [fres .quo .f32 (floatOfInt .f32 (IntKind.i64.wrap ((z : Int) - 16))) 1082130432 w6], _, _, by omega, by rw [HWI.out], by simp; omega, fun x hx => ?_, Lib.hid I9.out.1, Lib.hid (by have h := S9.out; rw [show 2 + (acc ++ [fres .quo .f32 (floatOfInt .f32 (IntKind.i64.wrap ((z : Int) - 16))) 1082130432 w6]).length = 2 + acc.length + 1 by simp; omega]; exact h)⟩
          rcases List.mem_append.1 hx with h | h
          · exact hv x h
          · have e1 : IntKind.i64.wrap ((z : Int) - 16) = (z : Int) - 16 := by
              rw [IntKind.wrap_i64]
              omega
            rw [List.mem_singleton.1 h, cn_fres, e1]
            exact ⟨z, hz, rfl⟩
        case measure => rw [HWI.out]; simp [intOf]; omega
    · obtain rfl : i = 0 := by omega
      obtain ⟨_, d0, d1, d2⟩ := HI.out.box
      obtain ⟨_, ⟨u0, r0⟩, ⟨u1, r1⟩, ⟨u2, r2⟩, f0, f1, f2⟩ := HI.out.res
      have HD := Lib.hid (show DSh W H acc from ⟨by omega, by omega, by omega, by omega, by omega, hv⟩)
      have HR := Lib.hid (show FRd wr Av acc from Rd.of_own HI.out.own)
      obtain ⟨n, hn⟩ : ∃ n, n = acc.length := ⟨_, rfl⟩
      rw [← hn] at d2
      have HN := Lib.hid hn
      clear hn hl hW hH hNN
      obtain ⟨q0, q1, q2⟩ := HI.out.res.read (.int .i64 W) (.int .i64 H) (.slice Av n cv)
      have HQ := Lib.hid (And.intro q0 (And.intro q1 q2))
      have HK := Lib.hid HI.out.keep
      have HLW := Lib.hid HI.out.own.lt
      have hb0 : w.heap.size < b0 := by have := HI.out.hp; have := HI.out.hq; have := HI.out.hb; omega
      clear q0 q1 q2 HI HS
      go_wp2
      obtain ⟨q0, q1, q2⟩ := HQ.out
      refine bodyPost_ret (v := shv W H Av n cv) (by simp [results, Try.results28, go_sem, q0, q1, q2, shv]) rfl ?_
      refine ⟨W, H, Av, cv, acc, by rw [HN.out], HD.out, HR.out.keep (keep_three _ _ _ _ _) (fun b o e h => ?_), ((HK.out.setCell (Nat.le_refl _) _).setCell (Nat.le_refl _) _).setCell (Nat.le_refl _) _⟩
      have h1 := (HLW.out b (by rw [e]; rfl)).1
      have h2 : b = w.heap.size := h
      omega
end Go.Proofs.Ytcdipgkdbannmaa
