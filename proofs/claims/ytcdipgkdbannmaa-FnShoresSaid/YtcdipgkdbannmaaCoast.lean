/- The contour of a sheet: the program's closure. -/
import Derived.Test.YtcdipgkdbannmaaMd
import Derived.Test.YtcdipgkdbannmaaVario
import Derived.Test.YtcdipgkdbannmaaMc
namespace Go.Proofs.Ytcdipgkdbannmaa
open Go.RowKit

/-- A complex number of two words. -/
def cv (p : Nat × Nat) : Value := .complex .f32 p.1 p.2
/-- Complex numbers, all NaNs made one. -/
def cp (P : List (Nat × Nat)) : List (Nat × Nat) := P.map fun p => (cn .f32 p.1, cn .f32 p.2)
theorem cp_len (P : List (Nat × Nat)) : (cp P).length = P.length := by simp [cp]
theorem cp_snoc (P : List (Nat × Nat)) (p : Nat × Nat) : cp (P ++ [p]) = cp P ++ [(cn .f32 p.1, cn .f32 p.2)] := by simp [cp]
/-- The place that a pair of places gives, if the level lies between them. -/
def coP (l : List Nat) (W lev : Nat) (d : Bool) (q : Nat × Nat) : List (Nat × Nat) :=
  if (ford .f32 (l.getD q.1 0) lev == some .gt) == (ford .f32 (l.getD q.2 0) lev == some .gt) then [] else
  let r := fop .quo .f32 (fop .sub .f32 lev (l.getD q.1 0)) (fop .sub .f32 (l.getD q.2 0) (l.getD q.1 0))
  let x := cn .f32 (floatOfInt .f32 ((q.1 % W : Nat) : Int))
  let y := cn .f32 (floatOfInt .f32 ((q.1 / W : Nat) : Int))
  if d then [(x, fop .add .f32 y r)] else [(fop .add .f32 x r, y)]
theorem coP_len (l : List Nat) (W lev : Nat) (d : Bool) (q : Nat × Nat) : (coP l W lev d q).length ≤ 1 := by
  unfold coP
  split
  · exact Nat.zero_le _
  · dsimp only
    split <;> exact Nat.le_refl _
theorem info.c64 : (Try.prog.info? 50).map (fun i => (i.zero, i.size, i.bytes)) = some (some (.complex .f32 0 0), 1, 8) := by kernel_rfl
theorem own_keep {w w' : World} {base : Nat} {e : TypeId} {size : Nat} {v : Value} {n : Nat} {xs : List Value} {S : Nat → Prop} (h : w.ownsRow base e size v n xs) (k : Keep S w w') (hs : ∀ g, v.ownBlock = some g → ¬ S g) : w'.ownsRow base e size v n xs := by
  refine ⟨h.1, ?_⟩
  rcases h.2 with h2 | ⟨g, cap, cur, hv, hg, hh, hr⟩
  · exact .inl h2
  · refine .inr ⟨g, cap, cur, hv, hg, ?_, hr⟩
    have hlt : g < w.heap.size := by
      rcases Nat.lt_or_ge g w.heap.size with hlt | hge
      · exact hlt
      · rw [Array.getElem?_eq_none hge] at hh; cases hh
    rw [k.block g hlt (hs g (by rw [hv]; rfl))]
    exact hh

theorem own_later' {w w' : World} {base : Nat} {e : TypeId} {size : Nat} {v : Value} {n : Nat} {xs : List Value} (h : w.ownsRow base e size v n xs) (k : Below w.heap.size w w') : w'.ownsRow base e size v n xs :=
  own_keep h (Keep.of_below (S := fun _ => False) k) (fun _ _ => id)
theorem own_cv {w : World} {base n : Nat} {e : TypeId} {v : Value} {P : List (Nat × Nat)} {a b : Nat} (h : w.ownsRow base e 1 v n (P.map cv ++ [.complex .f32 a b])) : w.ownsRow base e 1 v n ((P ++ [(a, b)]).map cv) := by
  rw [List.map_append]; exact h
/-- What the closure leaves behind. -/
def Grew (base po : Nat) (v : Value) (C : List (Nat × Nat)) (w : World) (w' : World) : Prop :=
  ∃ v' P', w'.ownsRow base 50 1 v' P'.length (P'.map cv) ∧ cp P' = C ∧ w'.cell? ⟨po, 0, none⟩ = some v' ∧ w'.frozen? ⟨po, 0, none⟩ = false ∧ Keep (fun k => k = po ∨ v.ownBlock = some k) w w' ∧ (∀ g, v'.ownBlock = some g → v.ownBlock = some g ∨ w.heap.size < g)

set_option maxRecDepth 100000 in
set_option maxHeartbeats 2000000 in
theorem contour1_any (A : Option Addr) (c : Nat) (xs : List Nat) (i k : Nat) (W p pl po lev base : Nat) (v : Value) (P : List (Nat × Nat)) (d : Bool) (w : World) (hA : FRd w A xs) (hi : i < xs.length) (hk : k < xs.length) (hW : 1 ≤ W ∧ W ≤ 17) (hn : xs.length ≤ 289)
    (c0 : w.cell? ⟨p, 0, none⟩ = some (.int .i64 W)) (c2 : w.cell? ⟨p, 2, none⟩ = some (.slice A xs.length c)) (cl' : w.cell? ⟨pl, 0, none⟩ = some (.float .f32 lev)) (co : w.cell? ⟨po, 0, none⟩ = some v) (fo : w.frozen? ⟨po, 0, none⟩ = false)
    (hown : w.ownsRow base 50 1 v P.length (P.map cv)) (hne : ¬ v.ownBlock = some po) (hbase : base ≤ w.heap.size) (hP : P.length ≤ 1000) :
    Calls Try.prog 64 #[.int .i64 i, .int .i64 k, .bool d, .pointer (some ⟨p, 0, none⟩), .pointer (some ⟨pl, 0, none⟩), .pointer (some ⟨po, 0, none⟩)] w fun e w' => e = .returned (.tuple #[]) ∧ Grew base po v (cp P ++ coP (cl xs) W (cn .f32 lev) d (i, k)) w w' := by
  obtain ⟨i0, hi0, hz0, hz1, hz2⟩ := info_parts info.c64
  obtain ⟨b, o, rfl, hb, hc1⟩ := hA.at_ hi
  obtain ⟨b', o', e', hb', hc2⟩ := hA.at_ hk
  injection e' with e'
  injection e' with e1 e2
  subst e1; subst e2
  have hi' : (i : Int) < xs.length := by omega
  have hk' : (k : Int) < xs.length := by omega
  have g1 : (cl xs).getD i 0 = cn .f32 xs[i] := cl_get hi
  have g2 : (cl xs).getD k 0 = cn .f32 xs[k] := cl_get hk
  cases hcr : ((ford .f32 (cn .f32 xs[i]) (cn .f32 lev) == some .gt) == (ford .f32 (cn .f32 xs[k]) (cn .f32 lev) == some .gt))
  · have hco : Hid (coP (cl xs) W (cn .f32 lev) d (i, k) = if d then [(cn .f32 (floatOfInt .f32 ((i % W : Nat) : Int)), fop .add .f32 (cn .f32 (floatOfInt .f32 ((i / W : Nat) : Int))) (fop .quo .f32 (fop .sub .f32 (cn .f32 lev) (cn .f32 xs[i])) (fop .sub .f32 (cn .f32 xs[k]) (cn .f32 xs[i]))))] else [(fop .add .f32 (cn .f32 (floatOfInt .f32 ((i % W : Nat) : Int))) (fop .quo .f32 (fop .sub .f32 (cn .f32 lev) (cn .f32 xs[i])) (fop .sub .f32 (cn .f32 xs[k]) (cn .f32 xs[i]))), cn .f32 (floatOfInt .f32 ((i / W : Nat) : Int)))]) := Lib.hid (by unfold coP; rw [g1, g2, hcr]; rfl)
    have t1 : ((i : Int).tmod (W : Int)) = (i : Int) % (W : Int) := Int.tmod_eq_emod_of_nonneg (by omega)
    have u1 : 0 ≤ (i : Int) % (W : Int) := Int.emod_nonneg _ (by omega)
    have u2 : (i : Int) % (W : Int) < (W : Int) := Int.emod_lt_of_pos _ (by omega)
    have t2 : IntKind.i64.wrap ((i : Int) % (W : Int)) = (i : Int) % (W : Int) := IntWalk.i64_in _ (by omega)
    have t3 : ((i : Int).tdiv (W : Int)) = (i : Int) / (W : Int) := Int.tdiv_eq_ediv_of_nonneg (by omega)
    have u3 : 0 ≤ (i : Int) / (W : Int) := Int.ediv_nonneg (by omega) (by omega)
    have u4 : (i : Int) / (W : Int) ≤ (i : Int) := Int.ediv_le_self _ (by omega)
    have t4 : IntKind.i64.wrap ((i : Int) / (W : Int)) = (i : Int) / (W : Int) := IntWalk.i64_in _ (by omega)
    have t5 : ((W : Int) == 0) = false := by simp; omega
    cases d
    all_goals
      go_enter Try.func64, Try.ntmps64
      go_wp2_with fail
      go_quiet (fail)
      go_wp2_with fail
      go_quiet (fail)
      go_wp2_with (at_builtin; refine wpList_pushK rfl _ _ 38 rfl base 50 i0 (.complex .f32 0 0) 8 Try.underlying38 hi0 hz0 hz1 hz2 rfl _ P.length (P.map cv) rfl hown _ rfl rfl (by unfold maxLen; omega) (by omega) (by exact hbase) ?_)
      intro v' w' hown' hk2 hpl
      obtain ⟨Av, cA, rfl⟩ := own_slice hown'
      have hlt : po < w.heap.size := World.block_lt_of_cell? _ _ co
      have co' : w'.cell? ⟨po, 0, none⟩ = some v := (hk2.cell (p := ⟨po, 0, none⟩) hlt hne).trans co
      have fo' : w'.frozen? ⟨po, 0, none⟩ = false := (World.frozen?_of_block (w := w) (hk2.block po hlt hne)).trans fo
      have hne2 : ∀ g, Value.ownBlock (.slice Av (P.length + 1) cA) = some g → ¬ g = po := fun g hg h => by
        rcases hpl g hg with h2 | h2
        · exact hne (h ▸ h2)
        · omega
      have hst : Keep (fun g => g = po) w' (w'.setCell ⟨po, 0, none⟩ (.slice Av (P.length + 1) cA)) := Keep.setCell (S := fun g => g = po) (p := ⟨po, 0, none⟩) (Keep.refl _ w') (.inl rfl) _
      have hown3 := own_keep hown' hst hne2
      have hkk : Keep (fun g => g = po ∨ v.ownBlock = some g) w (w'.setCell ⟨po, 0, none⟩ (.slice Av (P.length + 1) cA)) := by
        refine Keep.setCell ?_ (.inl (.inl rfl)) _
        exact ((Keep.refl (fun g => g = po ∨ v.ownBlock = some g) w).drewN _).trans (hk2.weak (fun g _ hg => .inr hg))
      have cell3 := World.cell?_setCell_same w' ⟨po, 0, none⟩ (.slice Av (P.length + 1) cA) co'
      have fro3 : (w'.setCell ⟨po, 0, none⟩ (.slice Av (P.length + 1) cA)).frozen? ⟨po, 0, none⟩ = false := by simpa using fo'
      have HP := Lib.hid (And.intro hown3 (And.intro hkk (And.intro cell3 fro3)))
      clear hown3 hkk cell3 fro3 hst hne2 hown' hk2 hown
      go_wp2
      go_end0
      obtain ⟨q1, q2, q3, q4⟩ := HP.out
      have q5 := own_cv q1
      refine ⟨rfl, _, P ++ [(_, _)], by rw [List.length_append]; exact q5, ?_, q3, q4, q2, hpl⟩
      rw [cp_snoc, hco.out]
      simp only [cn_fres]
      rfl
  · have hco : coP (cl xs) W (cn .f32 lev) d (i, k) = [] := by unfold coP; rw [g1, g2, hcr]; rfl
    rw [hco]
    clear hco
    go_enter Try.func64, Try.ntmps64
    go_wp2_with fail
    go_quiet (fail)
    go_wp2
    refine bodyPost_ret (v := .tuple #[]) (by simp [results, Try.results64]) rfl ?_
    exact ⟨rfl, v, P, hown, by simp, co, fo, (Keep.refl _ _).drewN _, fun g hg => .inl hg⟩

/-- All the places that the pairs give. -/
def coL (l : List Nat) (W lev : Nat) (a b : List (Nat × Nat)) : List (Nat × Nat) := a.flatMap (coP l W lev false) ++ b.flatMap (coP l W lev true)
theorem flat_len (l : List Nat) (W lev : Nat) (d : Bool) : ∀ a : List (Nat × Nat), (a.flatMap (coP l W lev d)).length ≤ a.length
  | [] => by simp
  | x :: a => by
    rw [List.flatMap_cons, List.length_append, List.length_cons]
    have := coP_len l W lev d x
    have := flat_len l W lev d a
    omega
theorem coL_len (l : List Nat) (W lev : Nat) (a b : List (Nat × Nat)) : (coL l W lev a b).length ≤ a.length + b.length := by
  unfold coL
  rw [List.length_append]
  have := flat_len l W lev false a
  have := flat_len l W lev true b
  omega
/-- What is known of the world while the pairs are visited. -/
structure CInv (W1 : World) (B po base : Nat) (C : List (Nat × Nat)) (wr : World) : Prop where
  keep : Keep (fun k => k ≠ B ∧ (k = po ∨ base ≤ k)) W1 wr
  out : ∃ v P, wr.ownsRow base 50 1 v P.length (P.map cv) ∧ cp P = C ∧ wr.cell? ⟨po, 0, none⟩ = some v ∧ wr.frozen? ⟨po, 0, none⟩ = false ∧ v.ownBlock ≠ some B ∧ v.ownBlock ≠ some po
theorem CInv.below {W1 : World} {B po base : Nat} {C : List (Nat × Nat)} {w w' : World} (h : CInv W1 B po base C w) (k : Below w.heap.size w w') : CInv W1 B po base C w' := by
  obtain ⟨v, P, h1, h2, h3, h4, h5, h6⟩ := h.out
  have z1 := World.block_lt_of_cell? _ _ h3
  exact ⟨h.keep.trans (Keep.of_below k), v, P, own_later' h1 k, h2, (k.cell z1).trans h3, (k.frozen (p := ⟨po, 0, none⟩) z1).trans h4, h5, h6⟩
theorem CInv.step {W1 : World} {B po base : Nat} {C D : List (Nat × Nat)} {w w' : World} {v : Value} {P : List (Nat × Nat)} (h : CInv W1 B po base C w) (hB : B = W1.heap.size) (hpo : po < B)
    (hown : w.ownsRow base 50 1 v P.length (P.map cv)) (hP : cp P = C) (h5 : v.ownBlock ≠ some B) (h6 : v.ownBlock ≠ some po) (g : Grew base po v (cp P ++ D) w w') :
    CInv W1 B po base (C ++ D) w' ∧ Keep (fun k => k ≠ B ∧ (k = po ∨ base ≤ k)) w w' := by
  obtain ⟨v', P', q1, q2, q3, q4, q5, q6⟩ := g
  have hk : Keep (fun k => k ≠ B ∧ (k = po ∨ base ≤ k)) w w' := q5.weak (fun k _ hk => by
    rcases hk with rfl | hk
    · exact ⟨by omega, .inl rfl⟩
    · exact ⟨fun e => h5 (e ▸ hk), .inr (hown.lt k hk).1⟩)
  have hz := h.keep.size
  refine ⟨⟨h.keep.trans hk, v', P', q1, by rw [q2, hP], q3, q4, fun e => ?_, fun e => ?_⟩, hk⟩
  · rcases q6 _ e with h2 | h2
    · exact h5 h2
    · omega
  · rcases q6 _ e with h2 | h2
    · exact h6 h2
    · omega
theorem coL_snocR (l : List Nat) (W lev : Nat) (a : List (Nat × Nat)) (x : Nat × Nat) : coL l W lev (a ++ [x]) [] = coL l W lev a [] ++ coP l W lev false x := by
  unfold coL
  rw [List.flatMap_append]
  simp
theorem coL_snocC (l : List Nat) (W lev : Nat) (a b : List (Nat × Nat)) (x : Nat × Nat) : coL l W lev a (b ++ [x]) = coL l W lev a b ++ coP l W lev true x := by
  unfold coL
  rw [List.flatMap_append]
  simp
theorem enter_contour : ∀ args w, (callFunc 64 args).run Try.prog w = .ok (.enter 64 args) w := fun args w => by
  simp only [callFunc]
  have h1 : ¬ (Try.f64.name = "runtime.NumGoroutine") := by decide +kernel
  have h2 : Try.f64.body.isSome = true := by kernel_rfl
  have h3 : ¬ (Try.f64.body = none) := fun h => by rw [h] at h2; cases h2
  simp [h1, h3]
set_option maxRecDepth 100000 in
set_option maxHeartbeats 2000000 in
theorem implCo_any (W H : Nat) (A : Option Addr) (c : Nat) (xs : List Nat) (lev : Nat) (w : World) (hA : FRd w A xs) (hn : xs.length ≤ maxLen) (hs : shB W H xs = true) (hl : finB (cn .f32 lev) = true) :
    Calls Try.prog 44 #[shv W H A xs.length c, .float .f32 lev] w fun e w' => ∃ A' c' P, e = .returned (.tuple #[.slice A' P.length c', .bool true]) ∧ OwnS w.heap.size w' A' (P.map cv) ∧ cp P = coL (cl xs) W (cn .f32 lev) (visR W 1 (H * W)) (visC W H 1 (H * W)) ∧ Below w.heap.size w w' := by
  have hA1 := Rd.below hA (below_alloc _ (.cells #[.int .i64 W, .int .i64 H, .slice A xs.length c] 29))
  have hA1b := Rd.below hA1 (below_alloc _ (.cells #[.float .f32 lev] 26))
  have K0 : Below w.heap.size w ((w.alloc (.cells #[.int .i64 W, .int .i64 H, .slice A xs.length c] 29)).alloc (.cells #[.float .f32 lev] 26)) := Below.step (below_alloc _ _) (below_alloc _ _)
  obtain ⟨sw1, sw2, sh1, sh2, sl, sf⟩ := shB_all hs
  go_enter Try.func44, Try.ntmps44
  go_wp2_with fail
  refine (implValid_any W H A c xs _ hA1b hn).mono ?_
  rintro e w1 ⟨rfl, k1⟩
  rw [hs]
  have e1 : w.heap.size + 1 < w1.heap.size := by have := k1.size; simp at this; omega
  have e2 : w.heap.size < w1.heap.size := by omega
  have c0 : w1.cell? ⟨w.heap.size, 0, none⟩ = some (.int .i64 W) := (k1.cell (by simp <;> omega)).trans (by simp)
  have c1 : w1.cell? ⟨w.heap.size, 1, none⟩ = some (.int .i64 H) := (k1.cell (by simp <;> omega)).trans (by simp)
  have c2 : w1.cell? ⟨w.heap.size, 2, none⟩ = some (.slice A xs.length c) := (k1.cell (by simp <;> omega)).trans (by simp)
  have cl1 : w1.cell? ⟨w.heap.size + 1, 0, none⟩ = some (.float .f32 lev) := (k1.cell (by simp <;> omega)).trans (by simp)
  have hA2 := Rd.below hA1b k1
  have K1 := Below.step K0 k1
  clear k1 K0 hA1 hA1b
  go_wp2_with fail
  refine (isFinite_any _ _).mono ?_
  rintro e w2 ⟨rfl, n2, hw2⟩
  rw [hl]
  have e1 : w.heap.size + 1 < w2.heap.size := by rw [hw2]; exact e1
  have e2 : w.heap.size < w2.heap.size := by rw [hw2]; exact e2
  have c0 : w2.cell? ⟨w.heap.size, 0, none⟩ = some (.int .i64 W) := by rw [hw2]; exact c0
  have c1 : w2.cell? ⟨w.heap.size, 1, none⟩ = some (.int .i64 H) := by rw [hw2]; exact c1
  have c2 : w2.cell? ⟨w.heap.size, 2, none⟩ = some (.slice A xs.length c) := by rw [hw2]; exact c2
  have cl1 : w2.cell? ⟨w.heap.size + 1, 0, none⟩ = some (.float .f32 lev) := by rw [hw2]; exact cl1
  have hA3 : FRd w2 A xs := by rw [hw2]; exact hA2
  have K2 : Below w.heap.size w w2 := by rw [hw2]; exact below_drewN K1 _
  clear hw2 K1 hA2
  go_wp2_with fail
  obtain ⟨W1, hW1⟩ : ∃ W1, W1 = (w2.alloc (.cells #[] 50)).alloc (.cells #[.slice (some ⟨w2.heap.size, 0, none⟩) 0 0] 38) := ⟨_, rfl⟩
  have kW : Below w2.heap.size w2 W1 := by rw [hW1]; exact Below.step (below_alloc _ _) (below_alloc _ _)
  have z1 : W1.heap.size = w2.heap.size + 2 := by rw [hW1, World.size_alloc, World.size_alloc]
  have s0 : W1.cell? ⟨w2.heap.size + 1, 0, none⟩ = some (.slice (some ⟨w2.heap.size, 0, none⟩) 0 0) := by rw [hW1]; simp
  have fs0 : W1.frozen? ⟨w2.heap.size + 1, 0, none⟩ = false := by rw [hW1]; simp
  have own0 : W1.ownsRow w2.heap.size 50 1 (.slice (some ⟨w2.heap.size, 0, none⟩) 0 0) 0 [] := by rw [hW1]; exact own_later' (own_made0 w2 w2.heap.size 50 (Nat.le_refl _)) (below_alloc _ _)
  have c0 := (kW.cell (p := ⟨w.heap.size, 0, none⟩) e2).trans c0
  have c2 := (kW.cell (p := ⟨w.heap.size, 2, none⟩) e2).trans c2
  have cl1 := (kW.cell (p := ⟨w.heap.size + 1, 0, none⟩) e1).trans cl1
  have hA4 := Rd.below hA3 kW
  have K3 := Below.step K2 kW
  rw [← hW1]
  clear hW1 c1 kW K2
  have hI0 : CInv W1 W1.heap.size (w2.heap.size + 1) w2.heap.size (coL (cl xs) W (cn .f32 lev) [] []) W1 := ⟨Keep.refl _ _, _, [], own0, rfl, s0, fs0, by simp [Value.ownBlock]; omega, by simp [Value.ownBlock]⟩
  have step : ∀ (C : List (Nat × Nat)) (i k : Nat) (d : Bool) (wr : World), CInv W1 W1.heap.size (w2.heap.size + 1) w2.heap.size C wr → C.length ≤ 1000 → i < W * H → k < W * H →
      Calls Try.prog 64 (#[.int .i64 (i : Nat), .int .i64 (k : Nat), .bool d] ++ #[.pointer (some ⟨w.heap.size, 0, none⟩), .pointer (some ⟨w.heap.size + 1, 0, none⟩), .pointer (some ⟨w2.heap.size + 1, 0, none⟩)]) wr fun e w' => e = .returned (.tuple #[]) ∧ CInv W1 W1.heap.size (w2.heap.size + 1) w2.heap.size (C ++ coP (cl xs) W (cn .f32 lev) d (i, k)) w' ∧ Keep (fun k => k ≠ W1.heap.size ∧ (k = w2.heap.size + 1 ∨ w2.heap.size ≤ k)) wr w' := by
    intro C i k d wr hI hC hi hk
    obtain ⟨v, P, h1, h2, h3, h4, h5, h6⟩ := hI.out
    have hl2 : xs.length = W * H := by have := sl; exact_mod_cast this
    have hlm : W * H ≤ 17 * 17 := Nat.mul_le_mul (by omega) (by omega)
    have hR : FRd wr A xs := hA4.keepA hI.keep (fun b hb => by
      obtain ⟨o, rfl⟩ := hb
      have := hA_lt hA (by omega : 0 < xs.length) rfl
      omega)
    have d0 := (hI.keep.cell (p := ⟨w.heap.size, 0, none⟩) (by show w.heap.size < _; omega) (by show ¬ (w.heap.size ≠ _ ∧ (w.heap.size = _ ∨ _ ≤ w.heap.size)); omega)).trans c0
    have d2 := (hI.keep.cell (p := ⟨w.heap.size, 2, none⟩) (by show w.heap.size < _; omega) (by show ¬ (w.heap.size ≠ _ ∧ (w.heap.size = _ ∨ _ ≤ w.heap.size)); omega)).trans c2
    have d3 := (hI.keep.cell (p := ⟨w.heap.size + 1, 0, none⟩) (by show w.heap.size + 1 < _; omega) (by show ¬ (w.heap.size + 1 ≠ _ ∧ (w.heap.size + 1 = _ ∨ _ ≤ w.heap.size + 1)); omega)).trans cl1
    have hz := hI.keep.size
    refine (contour1_any A c xs i k W w.heap.size (w.heap.size + 1) (w2.heap.size + 1) lev w2.heap.size v P d wr hR (by omega) (by omega) ⟨by omega, by omega⟩ (by omega) d0 d2 d3 h3 h4 h1 h6 (by omega) (by rw [← cp_len, h2]; exact hC)).mono ?_
    rintro e w' ⟨rfl, hg⟩
    obtain ⟨a1, a2⟩ := hI.step rfl (by omega) h1 h2 h5 h6 hg
    exact ⟨rfl, a1, a2⟩
  have hlm : W * H ≤ 17 * 17 := Nat.mul_le_mul (by omega) (by omega)
  refine (eachPair_inv2 W H 1 A xs.length c 64 _ W1 ⟨by omega, by omega⟩ ⟨by omega, by omega⟩ ⟨by omega, by omega⟩ (fun k => k ≠ W1.heap.size ∧ (k = w2.heap.size + 1 ∨ w2.heap.size ≤ k)) (fun h => h.1 rfl)
    (fun a b wr => CInv W1 W1.heap.size (w2.heap.size + 1) w2.heap.size (coL (cl xs) W (cn .f32 lev) a b) wr) (fun a b v1 v2 h k => h.below k)
    (fun a i k wr h ha hi hk => (step _ i k false wr h (by have := coL_len (cl xs) W (cn .f32 lev) a []; simp at this; omega) hi hk).mono (fun e w' ⟨g1, g2, g3⟩ => ⟨g1, by rw [coL_snocR]; exact g2, g3⟩))
    (fun a b i k wr h ha hb hi hk => (step _ i k true wr h (by have := coL_len (cl xs) W (cn .f32 lev) a b; omega) hi hk).mono (fun e w' ⟨g1, g2, g3⟩ => ⟨g1, by rw [coL_snocC]; exact g2, g3⟩)) enter_contour hI0).mono ?_
  rintro e w3 ⟨rfl, hI, hk⟩
  clear step hI0
  obtain ⟨v, P, h1, h2, h3, h4, h5, h6⟩ := hI.out
  obtain ⟨Av, cA, rfl⟩ := own_slice h1
  have KW : Below w.heap.size w w3 := K3.trans (⟨hk.os, hk.tape, hk.output, hk.size, fun i hi => hk.block i (by omega) (by omega)⟩ : Below w.heap.size W1 w3)
  have HO := Lib.hid ((OwnS.of_own h1).less (B' := w.heap.size) (by omega))
  have HP := Lib.hid h2
  clear h1 h2 h4 h5 h6 hI hk own0 s0
  go_wp2
  go_ret2
  exact ⟨_, _, P, rfl, HO.out, HP.out, KW⟩
end Go.Proofs.Ytcdipgkdbannmaa
