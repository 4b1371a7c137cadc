/- VariogramOf, both sides. -/
import Derived.Test.YtcdipgkdbannmaaMd
import Derived.Test.YtcdipgkdbannmaaSl
import Derived.Test.YtcdipgkdbannmaaLogW
import Derived.Test.YtcdipgkdbannmaaDet
import Derived.BigRegion
namespace Go.Proofs.Ytcdipgkdbannmaa
open Go.RowKit

theorem shB_all {sw sh : Int} {xs : List Nat} (h : shB sw sh xs = true) : 1 ≤ sw ∧ sw ≤ 17 ∧ 1 ≤ sh ∧ sh ≤ 17 ∧ (xs.length : Int) = sw * sh ∧ finL xs = true := by
  unfold shB at h
  simp at h
  obtain ⟨⟨⟨⟨a, b⟩, c, d⟩, e⟩, f⟩ := h
  exact ⟨a, b, c, d, e, f⟩
theorem hA_lt {w : World} {A : Option Addr} {xs : List Nat} (h : FRd w A xs) (h0 : 0 < xs.length) {b o : Nat} (hb : A = some ⟨b, o, none⟩) : b < w.heap.size := by
  obtain ⟨b', o', e, hlt, _⟩ := h.at_ h0
  rw [hb] at e
  injection e with e
  injection e with e1 e2
  omega
theorem fin_at' {xs : List Nat} {k : Nat} (hk : k < xs.length) (h : finL xs = true) : finB (cn .f32 xs[k]) = true := finL_at hk h
theorem fin_sm {x : Nat} (h : finB (cn .f32 x) = true) : Sm .f32 (cn .f32 x) 255 := by
  obtain ⟨s, m, e, hr⟩ := finB_num h
  obtain ⟨hm, he1, he2⟩ := single_bounds hr
  refine ⟨s, m, e, hr, by rw [bias32]; omega, ?_⟩
  rw [bias32]
  exact Nat.le_trans (Nat.le_of_lt hm) (by rw [show (16777216 : Nat) = 2 ^ 24 from rfl]; exact Nat.pow_le_pow_right (by decide) (by omega))
theorem fin_cn {x : Nat} (h : finB (cn .f32 x) = true) : cn .f32 x = x := by
  cases hn : isN .f32 x
  · exact cn_of_not hn
  · have := (fin_sm h).num
    rw [isN_cn] at this
    rw [this] at hn
    cases hn
/-- The square of a difference. -/
def sqD (l : List Nat) (q : Nat × Nat) : Nat := fop .mul .f32 (fop .sub .f32 (l.getD q.2 0) (l.getD q.1 0)) (fop .sub .f32 (l.getD q.2 0) (l.getD q.1 0))
set_option maxRecDepth 100000 in
set_option maxHeartbeats 1000000 in
theorem vario1_any (A : Option Addr) (c : Nat) (xs : List Nat) (i k : Nat) (d : Bool) (p p1 p2 bs bn : Nat) (w : World) (hA : FRd w A xs) (_hn : xs.length ≤ 1000) (hi : i < xs.length) (hk : k < xs.length) (hf : finL xs = true)
    (c2 : w.cell? ⟨p, 2, none⟩ = some (.slice A xs.length c)) (cs : w.cell? ⟨p1, 0, none⟩ = some (.float .f32 bs)) (cb : w.cell? ⟨p2, 0, none⟩ = some (.float .f32 bn)) (fs : w.frozen? ⟨p1, 0, none⟩ = false) (fb : w.frozen? ⟨p2, 0, none⟩ = false) (hne : p1 ≠ p2) :
    Calls Try.prog 39 #[.int .i64 i, .int .i64 k, .bool d, .pointer (some ⟨p, 0, none⟩), .pointer (some ⟨p1, 0, none⟩), .pointer (some ⟨p2, 0, none⟩)] w fun e w' => e = .returned (.tuple #[]) ∧ ∃ bs' bn' m m2, w' = (((w.drewN m).setCell ⟨p1, 0, none⟩ (.float .f32 bs')).drewN m2).setCell ⟨p2, 0, none⟩ (.float .f32 bn') ∧ cn .f32 bs' = fop .add .f32 (cn .f32 bs) (sqD (cl xs) (i, k)) ∧ cn .f32 bn' = fop .add .f32 (cn .f32 bn) (cn .f32 1065353216) := by
  obtain ⟨b, o, rfl, hb, hc1⟩ := hA.at_ hi
  obtain ⟨b', o', e', hb', hc2⟩ := hA.at_ hk
  injection e' with e'
  injection e' with e1 e2
  subst e1; subst e2
  have f1 := fin_at' hi hf
  have f2 := fin_at' hk hf
  have D := det_sub (fin_cn f2 ▸ fin_sm f2) (fin_cn f1 ▸ fin_sm f1) (by omega)
  have r1 := D.res
  have d1 := D.dr
  have hi' : (i : Int) < xs.length := by omega
  have hk' : (k : Int) < xs.length := by omega
  have hG : Hid (fop .sub .f32 xs[k] xs[i] = fop .sub .f32 ((cl xs).getD k 0) ((cl xs).getD i 0)) := Lib.hid (by rw [cl_get hi, cl_get hk, fin_cn f1, fin_cn f2])
  clear D f1 f2
  go_enter Try.func39, Try.ntmps39
  go_wp2_with fail
  go_quiet (fail)
  go_wp2
  go_end0
  refine ⟨rfl, _, _, _, _, rfl, ?_, ?_⟩
  · simp only [cn_fres, cn_fop]
    unfold sqD
    rw [hG.out]
  · rw [cn_fres]

def cntF : Nat → Nat
  | 0 => cn .f32 0
  | n + 1 => fop .add .f32 (cntF n) (cn .f32 1065353216)
theorem cnt_step : ∀ n : Nat, n < 600 → fop .add .f32 (cn .f32 (floatOfInt .f32 (n : Int))) (cn .f32 1065353216) = cn .f32 (floatOfInt .f32 ((n + 1 : Nat) : Int)) := by decide +kernel
theorem cnt_eq : ∀ n : Nat, n ≤ 600 → cntF n = cn .f32 (floatOfInt .f32 (n : Int))
  | 0, _ => by decide +kernel
  | n + 1, h => by
    show fop .add .f32 (cntF n) _ = _
    rw [cnt_eq n (by omega), cnt_step n (by omega)]
theorem cnt_zero : ∀ n : Nat, n < 600 → (ford .f32 (cn .f32 (floatOfInt .f32 ((n + 1 : Nat) : Int))) (cn .f32 0) == some .eq) = false := by decide +kernel
def vSum (l : List Nat) (q : List (Nat × Nat)) : Nat := sumF (q.map (sqD l))
theorem vSum_snoc (l : List Nat) (q : List (Nat × Nat)) (x : Nat × Nat) : vSum l (q ++ [x]) = fop .add .f32 (vSum l q) (sqD l x) := by
  unfold vSum; rw [List.map_append]; exact sumF_snoc _ _

/-- What is known of the world behind the visits q. -/
structure VInv (W1 : World) (p1 p2 : Nat) (l : List Nat) (q : List (Nat × Nat)) (wr : World) : Prop where
  keep : Keep (fun k => k = p1 ∨ k = p2) W1 wr
  s : ∃ b, wr.cell? ⟨p1, 0, none⟩ = some (.float .f32 b) ∧ cn .f32 b = vSum l q
  n : ∃ b, wr.cell? ⟨p2, 0, none⟩ = some (.float .f32 b) ∧ cn .f32 b = cntF q.length
  fs : wr.frozen? ⟨p1, 0, none⟩ = false
  fn : wr.frozen? ⟨p2, 0, none⟩ = false
theorem VInv.below {W1 : World} {p1 p2 : Nat} {l : List Nat} {q : List (Nat × Nat)} {w w' : World} (h : VInv W1 p1 p2 l q w) (k : Below w.heap.size w w') : VInv W1 p1 p2 l q w' := by
  obtain ⟨b, hb, hc⟩ := h.s
  obtain ⟨b2, hb2, hc2⟩ := h.n
  have z1 := World.block_lt_of_cell? _ _ hb
  have z2 := World.block_lt_of_cell? _ _ hb2
  exact ⟨h.keep.trans (Keep.of_below k), ⟨b, (k.cell z1).trans hb, hc⟩, ⟨b2, (k.cell z2).trans hb2, hc2⟩, (k.frozen (p := ⟨p1, 0, none⟩) z1).trans h.fs, (k.frozen (p := ⟨p2, 0, none⟩) z2).trans h.fn⟩
theorem VInv.step {W1 : World} {p1 p2 : Nat} {l : List Nat} {q : List (Nat × Nat)} {w w' : World} {x : Nat × Nat} {bs bn bs' bn' m m2 : Nat} (h : VInv W1 p1 p2 l q w) (hne : p1 ≠ p2)
    (h1 : w.cell? ⟨p1, 0, none⟩ = some (.float .f32 bs)) (h2 : w.cell? ⟨p2, 0, none⟩ = some (.float .f32 bn)) (e1 : cn .f32 bs = vSum l q) (e2 : cn .f32 bn = cntF q.length)
    (hw : w' = (((w.drewN m).setCell ⟨p1, 0, none⟩ (.float .f32 bs')).drewN m2).setCell ⟨p2, 0, none⟩ (.float .f32 bn')) (g1 : cn .f32 bs' = fop .add .f32 (cn .f32 bs) (sqD l x)) (g2 : cn .f32 bn' = fop .add .f32 (cn .f32 bn) (cn .f32 1065353216)) :
    VInv W1 p1 p2 l (q ++ [x]) w' ∧ Keep (fun k => k = p1 ∨ k = p2) w w' := by
  have hk : Keep (fun k => k = p1 ∨ k = p2) w w' := by
    rw [hw]
    exact ((((Keep.refl _ w).drewN m).setCell (.inl (.inl rfl)) _).drewN m2).setCell (.inl (.inr rfl)) _
  have c1 : w'.cell? ⟨p1, 0, none⟩ = some (.float .f32 bs') := by
    rw [hw]
    refine (World.cell?_setCell_other _ _ _ _ (by simp <;> omega)).trans ?_
    exact World.cell?_setCell_same (w.drewN m) _ _ h1
  have c2 : w'.cell? ⟨p2, 0, none⟩ = some (.float .f32 bn') := by
    rw [hw]
    have hold : ((w.drewN m).setCell ⟨p1, 0, none⟩ (.float .f32 bs')).cell? ⟨p2, 0, none⟩ = some (.float .f32 bn) := (World.cell?_setCell_other (w.drewN m) _ _ _ (by simp <;> omega)).trans h2
    exact World.cell?_setCell_same (((w.drewN m).setCell ⟨p1, 0, none⟩ (.float .f32 bs')).drewN m2) _ _ hold
  refine ⟨⟨h.keep.trans hk, ⟨bs', c1, by rw [g1, e1, vSum_snoc]⟩, ⟨bn', c2, by rw [g2, e2, List.length_append]; rfl⟩, ?_, ?_⟩, hk⟩
  · rw [hw]
    have := h.fs
    simpa using this
  · rw [hw]
    have := h.fn
    simpa using this

def vaQ (W H lag : Nat) : List (Nat × Nat) := visR W lag (H * W) ++ visC W H lag (H * W)
theorem vis_len {W lag : Nat} : ∀ n, (visR W lag n).length ≤ n := fun n => by
  have := List.length_filterMap_le (fun i => if i % W + lag < W then some (i, i + lag) else none) (List.range n)
  simpa [visR] using this
theorem visC_len {W H lag : Nat} : ∀ n, (visC W H lag n).length ≤ n := fun n => by
  have := List.length_filterMap_le (fun i => if i / W + lag < H then some (i, i + lag * W) else none) (List.range n)
  simpa [visC] using this
theorem vaQ_len {W H lag : Nat} (hW : W ≤ 17) (hH : H ≤ 17) : (vaQ W H lag).length ≤ 578 := by
  have h1 := vis_len (W := W) (lag := lag) (H * W)
  have h2 := visC_len (W := W) (H := H) (lag := lag) (H * W)
  have h3 : H * W ≤ 17 * 17 := Nat.mul_le_mul hH hW
  unfold vaQ
  rw [List.length_append]
  omega
def vaV (xs : List Nat) (W H lag : Nat) : Nat := fop .mul .f32 (cn .f32 1056964608) (fop .quo .f32 (vSum (cl xs) (vaQ W H lag)) (cn .f32 (floatOfInt .f32 ((vaQ W H lag).length : Int))))
def vaNone (W H lag : Nat) : Bool := (vaQ W H lag).isEmpty
/-- What VariogramOf gives for a valid sheet and a lag that is one. -/
def vaX (xs : List Nat) (W H lag : Nat) : Nat := if vaNone W H lag then cn .f32 0 else numX (vaV xs W H lag)
def vaB (xs : List Nat) (W H lag : Nat) : Bool := !vaNone W H lag && finB (vaV xs W H lag)
theorem enter_vario : ∀ args w, (callFunc 39 args).run Try.prog w = .ok (.enter 39 args) w := fun args w => by
  simp only [callFunc]
  have h1 : ¬ (Try.f39.name = "runtime.NumGoroutine") := by decide +kernel
  have h2 : Try.f39.body.isSome = true := by kernel_rfl
  have h3 : ¬ (Try.f39.body = none) := fun h => by rw [h] at h2; cases h2
  simp [h1, h3]
set_option maxRecDepth 100000 in
set_option maxHeartbeats 2000000 in
theorem implV_any (W H : Nat) (A : Option Addr) (c : Nat) (xs : List Nat) (lag : Nat) (w : World) (hA : FRd w A xs) (hn : xs.length ≤ maxLen) (hs : shB W H xs = true) (h1 : 1 ≤ lag) (h2 : lag ≤ 17) :
    Calls Try.prog 12 #[shv W H A xs.length c, .int .i64 lag] w (NumB w (vaX xs W H lag) (vaB xs W H lag)) := by
  have hA1 := Rd.below hA (below_alloc _ (.cells #[.int .i64 W, .int .i64 H, .slice A xs.length c] 29))
  obtain ⟨sw1, sw2, sh1, sh2, sl, sf⟩ := shB_all hs
  go_enter Try.func12, Try.ntmps12
  go_wp2_with fail
  refine (implValid_any W H A c xs _ hA1 hn).mono ?_
  rintro e w1 ⟨rfl, k1⟩
  rw [hs]
  have e1 : w.heap.size < w1.heap.size := by have := k1.size; simp at this; omega
  have c0 : w1.cell? ⟨w.heap.size, 0, none⟩ = some (.int .i64 W) := (k1.cell (by simp)).trans (by simp)
  have c1 : w1.cell? ⟨w.heap.size, 1, none⟩ = some (.int .i64 H) := (k1.cell (by simp)).trans (by simp)
  have c2 : w1.cell? ⟨w.heap.size, 2, none⟩ = some (.slice A xs.length c) := (k1.cell (by simp)).trans (by simp)
  have hA2 := Rd.below hA1 k1
  have K1 := Below.step (below_alloc _ _) k1
  clear k1
  go_wp2_with fail
  refine (side_yes _ _ ⟨by omega, by omega⟩).mono ?_
  rintro e w2 ⟨rfl, rfl⟩
  go_wp2_with fail
  obtain ⟨W1, hW1⟩ : ∃ W1, W1 = (w1.alloc (.cells #[.float .f32 0] 26)).alloc (.cells #[.float .f32 0] 26) := ⟨_, rfl⟩
  have kW : Below w1.heap.size w1 W1 := by rw [hW1]; exact Below.step (below_alloc _ _) (below_alloc _ _)
  have z1 : w1.heap.size + 1 < W1.heap.size := by rw [hW1, World.size_alloc, World.size_alloc]; omega
  have s0 : W1.cell? ⟨w1.heap.size, 0, none⟩ = some (.float .f32 0) := by rw [hW1]; simp
  have n0 : W1.cell? ⟨w1.heap.size + 1, 0, none⟩ = some (.float .f32 0) := by rw [hW1]; simp
  have fs0 : W1.frozen? ⟨w1.heap.size, 0, none⟩ = false := by rw [hW1]; simp
  have fn0 : W1.frozen? ⟨w1.heap.size + 1, 0, none⟩ = false := by rw [hW1]; simp
  have c2 := (kW.cell (p := ⟨w.heap.size, 2, none⟩) e1).trans c2
  have hA3 := Rd.below hA2 kW
  have K3 := Below.step K1 kW
  rw [← hW1]
  clear hW1 c0 c1
  have hI0 : VInv W1 w1.heap.size (w1.heap.size + 1) (cl xs) ([] ++ []) W1 := ⟨Keep.refl _ _, ⟨0, s0, rfl⟩, ⟨0, n0, rfl⟩, fs0, fn0⟩
  have step : ∀ (q : List (Nat × Nat)) (i k : Nat) (d : Bool) (wr : World), VInv W1 w1.heap.size (w1.heap.size + 1) (cl xs) q wr → i < W * H → k < W * H →
      Calls Try.prog 39 (#[.int .i64 (i : Nat), .int .i64 (k : Nat), .bool d] ++ #[.pointer (some ⟨w.heap.size, 0, none⟩), .pointer (some ⟨w1.heap.size, 0, none⟩), .pointer (some ⟨w1.heap.size + 1, 0, none⟩)]) wr fun e w' => e = .returned (.tuple #[]) ∧ VInv W1 w1.heap.size (w1.heap.size + 1) (cl xs) (q ++ [(i, k)]) w' ∧ Keep (fun k => k = w1.heap.size ∨ k = w1.heap.size + 1) wr w' := by
    intro q i k d wr hI hi hk
    obtain ⟨bs, hbs, hcs⟩ := hI.s
    obtain ⟨bn, hbn, hcn⟩ := hI.n
    have hl : xs.length = W * H := by have := sl; exact_mod_cast this
    have hR : FRd wr A xs := hA3.keepA hI.keep (fun b hb => by
      obtain ⟨o, rfl⟩ := hb
      have := hA_lt hA (by omega : 0 < xs.length) rfl
      omega)
    have hc2 := (hI.keep.cell (p := ⟨w.heap.size, 2, none⟩) (by show w.heap.size < _; omega) (by show ¬ (w.heap.size = _ ∨ w.heap.size = _); omega)).trans c2
    refine (vario1_any A c xs i k d w.heap.size w1.heap.size (w1.heap.size + 1) bs bn wr hR (by have : W * H ≤ 17 * 17 := Nat.mul_le_mul (by omega) (by omega); omega) (by omega) (by omega) sf hc2 hbs hbn hI.fs hI.fn (by omega)).mono ?_
    rintro e w' ⟨rfl, bs', bn', m, m2, hw, g1, g2⟩
    obtain ⟨a1, a2⟩ := hI.step (x := (i, k)) (by omega) hbs hbn hcs hcn hw g1 g2
    exact ⟨rfl, a1, a2⟩
  refine (eachPair_inv W H lag A xs.length c 39 _ W1 ⟨by omega, by omega⟩ ⟨by omega, by omega⟩ ⟨h1, h2⟩ (fun k => k = w1.heap.size ∨ k = w1.heap.size + 1) (fun k hk => by rcases hk with rfl | rfl <;> omega)
    (fun a b wr => VInv W1 w1.heap.size (w1.heap.size + 1) (cl xs) (a ++ b) wr) (fun a b v1 v2 h k => h.below k)
    (fun a i k wr h hi hk => (step (a ++ []) i k false wr h hi hk).mono (fun e w' ⟨g1, g2, g3⟩ => ⟨g1, by simpa using g2, g3⟩))
    (fun a b i k wr h hi hk => (step (a ++ b) i k true wr h hi hk).mono (fun e w' ⟨g1, g2, g3⟩ => ⟨g1, by simpa using g2, g3⟩)) enter_vario hI0).mono ?_
  rintro e w3 ⟨rfl, hI, hk⟩
  clear step hI0
  obtain ⟨bs, hbs, hcs⟩ := hI.s
  obtain ⟨bn, hbn, hcn⟩ := hI.n
  change cn .f32 bs = vSum (cl xs) (vaQ W H lag) at hcs
  change cn .f32 bn = cntF (vaQ W H lag).length at hcn
  have hlen := vaQ_len (W := W) (H := H) (lag := lag) (by omega) (by omega)
  have KW : Below w.heap.size w w3 := by
    have := K3.trans (⟨hk.os, hk.tape, hk.output, hk.size, fun i hi => hk.block i (by omega) (by omega)⟩ : Below w.heap.size W1 w3)
    exact this
  cases hq : vaNone W H lag
  · obtain ⟨n, hn1⟩ : ∃ n, (vaQ W H lag).length = n + 1 := by
      cases hv : vaQ W H lag with
      | nil => unfold vaNone at hq; rw [hv] at hq; cases hq
      | cons a l => exact ⟨l.length, rfl⟩
    rw [hn1, cnt_eq _ (by omega)] at hcn
    have hz := cnt_zero n (by omega)
    rw [← hcn] at hz
    have HS := Lib.hid hcs
    have HN := Lib.hid hcn
    clear hcs hcn hI hk
    go_wp2_with fail
    refine (ifNumber_any _ _).mono ?_
    rintro e w4 ⟨b4, n4, rfl, e4, rfl⟩
    have E4 := Lib.hid e4
    clear e4
    go_wp2
    go_ret2
    have hv : fop .mul .f32 (cn .f32 1056964608) (fop .quo .f32 (cn .f32 bs) (cn .f32 bn)) = vaV xs W H lag := by
      unfold vaV
      rw [HS.out, HN.out, hn1]
    exact ⟨_, ret_num (by unfold vaB; rw [hq, hv]; rfl), by rw [E4.out]; simp only [cn_fres]; rw [hv]; unfold vaX; rw [hq]; rfl, below_drewN KW _⟩
  · have hl0 : (vaQ W H lag).length = 0 := by unfold vaNone at hq; exact List.length_eq_zero_iff.2 (List.isEmpty_iff.1 hq)
    rw [hl0] at hcn
    have hz : ford .f32 (cn .f32 bn) (cn .f32 0) = some .eq := by rw [hcn]; decide +kernel
    clear hcs hcn hI hk
    go_wp2
    go_ret2
    exact ⟨_, by unfold vaB; rw [hq]; rfl, by unfold vaX; rw [hq]; rfl, KW⟩

theorem row_next {W H lag i : Nat} (h : i < W * H) (hc : i % W + lag < W) : i + lag < W * H := by
  have hW : 0 < W := by omega
  have h1 := Nat.div_add_mod i W
  have h2 : i / W < H := (Nat.div_lt_iff_lt_mul hW).2 (by rw [Nat.mul_comm]; exact h)
  have h3 : W * (i / W + 1) ≤ W * H := Nat.mul_le_mul_left _ h2
  rw [Nat.mul_add] at h3
  omega
theorem col_next {W H lag i : Nat} (h : i < W * H) (hc : i / W + lag < H) : i + lag * W < W * H := by
  have hW : 0 < W := by rcases Nat.eq_zero_or_pos W with h0 | h0; (subst h0; simp at h); exact h0
  have h1 := Nat.div_add_mod i W
  have h2 := Nat.mod_lt i hW
  have h3 : W * (i / W + lag + 1) ≤ W * H := Nat.mul_le_mul_left _ hc
  rw [Nat.mul_add, Nat.mul_add, Nat.mul_comm W lag] at h3
  omega
set_option maxRecDepth 100000 in
set_option maxHeartbeats 4000000 in
theorem l05Variogram_any (W H : Nat) (A : Option Addr) (c : Nat) (xs : List Nat) (lag p : Nat) (w : World) (hA : FRd w A xs) (hs : shB W H xs = true) (h1 : 1 ≤ lag) (h2 : lag ≤ 17)
    (c0 : w.cell? ⟨p, 0, none⟩ = some (.int .i64 W)) (c1 : w.cell? ⟨p, 1, none⟩ = some (.int .i64 H)) (c2 : w.cell? ⟨p, 2, none⟩ = some (.slice A xs.length c)) :
    Calls Try.prog 34 #[.pointer (some ⟨p, 0, none⟩), .int .i64 lag] w (NumR w (vaX xs W H lag) (vaB xs W H lag)) := by
  obtain ⟨sw1, sw2, sh1, sh2, sl, sf⟩ := shB_all hs
  have hl : xs.length = W * H := by exact_mod_cast sl
  have hlm : W * H ≤ 17 * 17 := Nat.mul_le_mul (by omega) (by omega)
  have hm1 : 0 ≤ (W : Int) * (H : Int) := Int.mul_nonneg (by omega) (by omega)
  have hm2 : (W : Int) * (H : Int) ≤ 17 * 17 := Int.mul_le_mul (by omega) (by omega) (by omega) (by omega)
  have hm3 : ((W * H : Nat) : Int) = (W : Int) * (H : Int) := by push_cast; rfl
  clear sl
  go_enter Try.func34, Try.ntmps34
  have hwm : IntKind.i64.wrap ((W : Int) * (H : Int)) = (W : Int) * (H : Int) := IntWalk.i64_in _ (by omega)
  go_wp2_with fail
  go_loopw [6, 7, 8] (fun sv nv iv wr => ∃ i b m : Nat, i ≤ W * H ∧ iv = .int .i64 i ∧ sv = .float .f32 b ∧ nv = .int .i64 (visR W lag i).length ∧ wr = w.drewN m ∧ Hid (cn .f32 b = vSum (cl xs) (visR W lag i))) (fun _ _ iv _ => W * H - (intOf iv).toNat)
  case atStart => exact ⟨0, _, 0, Nat.zero_le _, rfl, rfl, rfl, rfl, Lib.hid rfl⟩
  case round =>
    obtain ⟨i, b, m, hi, rfl, rfl, rfl, rfl, HS⟩ := hrel
    have hvl := vis_len (W := W) (lag := lag) i
    by_cases hlt : i < W * H
    · have hlt' : (i : Int) < (W : Int) * (H : Int) := by omega
      have hmod : i % W < W := Nat.mod_lt _ (by omega)
      have t1 : ((i : Int).tmod (W : Int)) = (i : Int) % (W : Int) := Int.tmod_eq_emod_of_nonneg (by omega)
      have t0 : (i : Int) % (W : Int) = ((i % W : Nat) : Int) := rfl
      have u1 : 0 ≤ (i : Int) % (W : Int) := by omega
      have u2 : (i : Int) % (W : Int) < (W : Int) := by omega
      have t2 : IntKind.i64.wrap ((i : Int) % (W : Int)) = (i : Int) % (W : Int) := IntWalk.i64_in _ (by omega)
      have t3 : IntKind.i64.wrap ((i : Int) % (W : Int) + (lag : Int)) = (i : Int) % (W : Int) + (lag : Int) := IntWalk.i64_in _ (by omega)
      have t4 : ((W : Int) == 0) = false := by simp; omega
      by_cases hc : i % W + lag < W
      · have hik : i + lag < W * H := row_next hlt hc
        have hvis := visR_yes (n := i) hc
        have hq := Lib.hid hvis
        have t5 : (i : Int) % (W : Int) + (lag : Int) < (W : Int) := by omega
        have t6 : IntKind.i64.wrap ((i : Int) + (lag : Int)) = (i : Int) + (lag : Int) := IntWalk.i64_in _ (by omega)
        have t7 : ((i : Int) + (lag : Int)).toNat = i + lag := by omega
        have t8 : (0 : Int) ≤ (i : Int) + (lag : Int) := by omega
        have t9 : (i : Int) + (lag : Int) < xs.length := by omega
        have t10 : (i : Int) < xs.length := by omega
        obtain ⟨b1, o1, e1, hb1, hc1⟩ := hA.at_ (show i < xs.length by omega)
        obtain ⟨b2, o2, e2, hb2, hc2⟩ := hA.at_ (show i + lag < xs.length by omega)
        rw [e1] at e2
        injection e2 with e2
        injection e2 with e3 e4
        subst e3; subst e4
        have f1 := fin_at' (show i < xs.length by omega) sf
        have f2 := fin_at' (show i + lag < xs.length by omega) sf
        have D := det_sub (fin_cn f2 ▸ fin_sm f2) (fin_cn f1 ▸ fin_sm f1) (by omega)
        have r1 := D.res
        have d1 := D.dr
        have hG : Hid (fop .sub .f32 xs[i + lag] xs[i] = fop .sub .f32 ((cl xs).getD (i + lag) 0) ((cl xs).getD i 0)) := Lib.hid (by rw [cl_get (show i < xs.length by omega), cl_get (show i + lag < xs.length by omega), fin_cn f1, fin_cn f2])
        subst e1
        clear hvis D f1 f2 t0 hc
        go_wp2_with fail
        go_quiet (fail)
        go_wp2_with fail
        go_quiet (fail)
        go_wp2_with fail
        go_quiet (fail)
        go_wp2
        go_roundw
        case rel => exact ⟨i + 1, _, _, by omega, by go_num, rfl, by rw [hq.out]; simp, rfl, by rw [hq.out, vSum_snoc]; exact Lib.hid (by rw [cn_fres, cn_fres, HS.out, cn_fop, hG.out]; rfl)⟩
        case measure => simp [intOf]; omega
      · have hx := visR_no (n := i) hc
        have hq := Lib.hid hx
        have t5 : ¬ (i : Int) % (W : Int) + (lag : Int) < (W : Int) := by omega
        clear hx t0
        go_wp2_with fail
        go_quiet (fail)
        go_wp2_with fail
        go_quiet (fail)
        go_wp2
        go_roundw
        case rel => exact ⟨i + 1, b, _, by omega, by go_num, rfl, by rw [hq.out], rfl, by rw [hq.out]; exact HS⟩
        case measure => simp [intOf]; omega
    · obtain rfl : i = W * H := by omega
      have hlt' : ¬ ((W * H : Nat) : Int) < (W : Int) * (H : Int) := by omega
      go_wp2_with fail
      go_quiet (fail)
      go_wp2_with fail
      go_loopw [6, 7, 10] (fun sv nv iv wr => ∃ i b m : Nat, i ≤ W * H ∧ iv = .int .i64 i ∧ sv = .float .f32 b ∧ nv = .int .i64 (visR W lag (W * H) ++ visC W H lag i).length ∧ wr = w.drewN m ∧ Hid (cn .f32 b = vSum (cl xs) (visR W lag (W * H) ++ visC W H lag i))) (fun _ _ iv _ => W * H - (intOf iv).toNat)
      case atStart => exact ⟨0, _, _, Nat.zero_le _, rfl, rfl, by simp [visC], World.drewN_drewN _ _ _, by simp [visC]; exact HS⟩
      case round =>
        clear hlt' hlt hi HS
        obtain ⟨i, b, m, hi, rfl, rfl, rfl, rfl, HS⟩ := hrel
        have hvl2 := visC_len (W := W) (H := H) (lag := lag) i
        have hvl3 : (visR W lag (W * H) ++ visC W H lag i).length ≤ 578 := by rw [List.length_append]; omega
        by_cases hlt : i < W * H
        · have hlt' : (i : Int) < (W : Int) * (H : Int) := by omega
          have t1 : ((i : Int).tdiv (W : Int)) = (i : Int) / (W : Int) := Int.tdiv_eq_ediv_of_nonneg (by omega)
          have t0 : (i : Int) / (W : Int) = ((i / W : Nat) : Int) := rfl
          have u0 : i / W < H := (Nat.div_lt_iff_lt_mul (by omega)).2 (by rw [Nat.mul_comm]; exact hlt)
          have u1 : 0 ≤ (i : Int) / (W : Int) := Int.ediv_nonneg (by omega) (by omega)
          have u2 : (i : Int) / (W : Int) < (H : Int) := by omega
          have t2 : IntKind.i64.wrap ((i : Int) / (W : Int)) = (i : Int) / (W : Int) := IntWalk.i64_in _ (by omega)
          have t3 : IntKind.i64.wrap ((i : Int) / (W : Int) + (lag : Int)) = (i : Int) / (W : Int) + (lag : Int) := IntWalk.i64_in _ (by omega)
          have t4 : ((W : Int) == 0) = false := by simp; omega
          by_cases hc : i / W + lag < H
          · have hik : i + lag * W < W * H := col_next hlt hc
            have hvis := visC_yes (n := i) hc
            have hq : Hid (visR W lag (W * H) ++ visC W H lag (i + 1) = (visR W lag (W * H) ++ visC W H lag i) ++ [(i, i + lag * W)]) := Lib.hid (by rw [hvis, List.append_assoc])
            have t5 : (i : Int) / (W : Int) + (lag : Int) < (H : Int) := by omega
            have g1 : 0 ≤ (lag : Int) * (W : Int) := Int.mul_nonneg (by omega) (by omega)
            have g2 : (lag : Int) * (W : Int) ≤ 17 * 17 := Int.mul_le_mul (by omega) (by omega) (by omega) (by omega)
            have g3 : ((lag * W : Nat) : Int) = (lag : Int) * (W : Int) := by push_cast; rfl
            have g4 : IntKind.i64.wrap ((lag : Int) * (W : Int)) = (lag : Int) * (W : Int) := IntWalk.i64_in _ (by omega)
            have t6 : IntKind.i64.wrap ((i : Int) + (lag : Int) * (W : Int)) = (i : Int) + (lag : Int) * (W : Int) := IntWalk.i64_in _ (by omega)
            have t7 : ((i : Int) + (lag : Int) * (W : Int)).toNat = i + lag * W := by omega
            have t8 : (0 : Int) ≤ (i : Int) + (lag : Int) * (W : Int) := by omega
            have t9 : (i : Int) + (lag : Int) * (W : Int) < xs.length := by omega
            have t10 : (i : Int) < xs.length := by omega
            obtain ⟨b1, o1, e1, hb1, hc1⟩ := hA.at_ (show i < xs.length by omega)
            obtain ⟨b2, o2, e2, hb2, hc2⟩ := hA.at_ (show i + lag * W < xs.length by omega)
            rw [e1] at e2
            injection e2 with e2
            injection e2 with e3 e4
            subst e3; subst e4
            have f1 := fin_at' (show i < xs.length by omega) sf
            have f2 := fin_at' (show i + lag * W < xs.length by omega) sf
            have D := det_sub (fin_cn f2 ▸ fin_sm f2) (fin_cn f1 ▸ fin_sm f1) (by omega)
            have r1 := D.res
            have d1 := D.dr
            have hG : Hid (fop .sub .f32 xs[i + lag * W] xs[i] = fop .sub .f32 ((cl xs).getD (i + lag * W) 0) ((cl xs).getD i 0)) := Lib.hid (by rw [cl_get (show i < xs.length by omega), cl_get (show i + lag * W < xs.length by omega), fin_cn f1, fin_cn f2])
            subst e1
            clear hvis D f1 f2 t0 hc g3
            go_wp2_with fail
            go_quiet (fail)
            go_wp2_with fail
            go_quiet (fail)
            go_wp2_with fail
            go_quiet (fail)
            go_wp2
            go_roundw
            case rel => exact ⟨i + 1, _, _, by omega, by go_num, rfl, by rw [hq.out]; simp; omega, rfl, by rw [hq.out, vSum_snoc]; exact Lib.hid (by rw [cn_fres, cn_fres, HS.out, cn_fop, hG.out]; rfl)⟩
            case measure => simp [intOf]; omega
          · have hx := visC_no (n := i) hc
            have hq := Lib.hid hx
            have t5 : ¬ (i : Int) / (W : Int) + (lag : Int) < (H : Int) := by omega
            clear hx t0
            go_wp2_with fail
            go_quiet (fail)
            go_wp2_with fail
            go_quiet (fail)
            go_wp2
            go_roundw
            case rel => exact ⟨i + 1, b, _, by omega, by go_num, rfl, by rw [hq.out]; simp, rfl, by rw [hq.out]; exact HS⟩
            case measure => simp [intOf]; omega
        · obtain rfl : i = W * H := by omega
          have hlt' : ¬ ((W * H : Nat) : Int) < (W : Int) * (H : Int) := by omega
          have hLq : visR W lag (W * H) ++ visC W H lag (W * H) = vaQ W H lag := by unfold vaQ; rw [Nat.mul_comm H W]
          rw [hLq] at HS hvl3
          rw [hLq]
          clear hLq hvl hvl2
          cases hv : vaNone W H lag
          · obtain ⟨n, hn1⟩ : ∃ n, (vaQ W H lag).length = n + 1 := by
              cases hv2 : vaQ W H lag with
              | nil => unfold vaNone at hv; rw [hv2] at hv; cases hv
              | cons a l => exact ⟨l.length, rfl⟩
            have hV : Hid (fop .mul .f32 (cn .f32 1056964608) (fop .quo .f32 (cn .f32 b) (cn .f32 (floatOfInt .f32 ((n + 1 : Nat) : Int)))) = vaV xs W H lag) := Lib.hid (by unfold vaV; rw [HS.out, hn1])
            have hX : Hid (vaX xs W H lag = numX (vaV xs W H lag) ∧ vaB xs W H lag = finB (vaV xs W H lag)) := Lib.hid ⟨by unfold vaX; rw [hv]; rfl, by unfold vaB; rw [hv]; rfl⟩
            rw [hn1]
            clear HS hn1 hvl3
            have hz : (((n + 1 : Nat) : Int) == 0) = false := by simp; omega
            go_wp2_with fail
            go_quiet (fail)
            go_wp2_with fail
            refine (l02Number_any _ _).mono ?_
            rintro e w4 ⟨b4, n4, rfl, e4, rfl⟩
            have E4 := Lib.hid e4
            clear e4
            go_wp2
            go_ret2
            have hv2 := hV.out
            push_cast at hv2
            exact ⟨_, _, ret_num (by rw [hX.out.2, ← hv2]), by rw [E4.out, hX.out.1, ← hv2]; simp only [cn_fres], rfl⟩
          · have hl0 : (vaQ W H lag).length = 0 := by unfold vaNone at hv; exact List.length_eq_zero_iff.2 (List.isEmpty_iff.1 hv)
            have hX : Hid (vaX xs W H lag = cn .f32 0 ∧ vaB xs W H lag = false) := Lib.hid ⟨by unfold vaX; rw [hv]; rfl, by unfold vaB; rw [hv]; rfl⟩
            rw [hl0]
            clear HS hl0 hvl3
            go_wp2_with fail
            go_quiet (fail)
            go_wp2_with fail
            go_ret2
            exact ⟨_, _, by rw [hX.out.2]; rfl, by rw [hX.out.1], rfl⟩
end Go.Proofs.Ytcdipgkdbannmaa
