/- PutRule: a rule put in the midst of a row. -/
import Derived.Test.YtfblpibioegmkaaCp
import Derived.Shelf.Spec.SlicesInsertGrow
namespace Go.Proofs.Ytfblpibioegmkaa
open Go.RowKit

theorem overlaps_run (w : World) (b g o m vc lb cb : Nat) (hne : b ≠ g) (tA tB : TypeId) (kA kB : Nat) (hsa : w.shape? b = some (tA, kA)) (hsb : w.shape? g = some (tB, kB)) (hkB : kB ≠ 0)
    (hfa : w.frozen? ⟨b, 0, none⟩ = false) (hfe : w.frozen? ⟨b, kA, none⟩ = false) :
    (callFunc 94 #[.slice (some ⟨b, 0, none⟩) m vc, .slice (some ⟨g, o, none⟩) lb cb]).run Try.prog w = .ok (.value (.bool false)) w := by
  rw [run_callFunc_extern Try.func94 (by kernel_rfl) (by kernel_rfl) (by kernel_rfl) (e := Extern.SlicesOverlaps.overlaps #[23, 23] #[4]) (by kernel_rfl),
    Lib.run_overlaps_apart w 23 4 55 Try.underlying23 2 Try.sizeOf55 ⟨b, 0, none⟩ ⟨g, o, none⟩ m vc lb cb hne tA tB kA kB hsa hsb hkB hfa hfe]
  rfl
theorem grown_set {w w' : World} {g : Nat} (h : w.grownBy w' (some g)) (cs : Array Value) : w.grownBy (w'.setRow g cs) (some g) :=
  ⟨h.os, h.tape, h.output, by simpa [World.setRow] using h.size, fun k hk hn => (setRow_other w' g k cs (fun e => hn (by rw [e]))).trans (h.block k hk hn)⟩
theorem grown_new {w w' : World} {row : Option Nat} {H : Nat} (h : w.grownBy w' row) (hH : w.heap.size ≤ H) (cs : Array Value) : w.grownBy (w'.setRow H cs) row :=
  ⟨h.os, h.tape, h.output, by simpa [World.setRow] using h.size, fun k hk hn => (setRow_other w' H k cs (by omega)).trans (h.block k hk hn)⟩
theorem grown_drew {w w' : World} {row : Option Nat} (h : w.grownBy w' row) : w.grownBy w'.drew row := ⟨h.os, h.tape, h.output, h.size, h.block⟩
theorem grown_refl (w : World) (row : Option Nat) : w.grownBy w row := ⟨rfl, rfl, rfl, Nat.le_refl _, fun _ _ _ => rfl⟩
set_option maxRecDepth 100000 in
set_option maxHeartbeats 4000000 in
/-- There is room. -/
theorem insert_room (w : World) (B g cap n i b : Nat) (tb : TypeId) (xs rr : List Value) (hv : w.ownsRow B 55 2 (.slice (some ⟨g, 0, none⟩) n cap) n xs) (hn : n ≤ 8) (hi : i < n) (hroom : n + 1 ≤ cap) (hrr : rr.length = 2)
    (hx1 : ∀ u ∈ xs, u.oneCell' = true) (hr1 : ∀ u ∈ rr, u.oneCell' = true) (hb : w.heap[b]? = some (.cells rr.toArray tb (0, 0))) (hbg : b ≠ g) :
    Calls Try.prog 76 #[.slice (some ⟨g, 0, none⟩) n cap, .int .i64 i, .slice (some ⟨b, 0, none⟩) 1 1] w fun e w' => ∃ v', e = .returned v' ∧ w'.ownsRow B 55 2 v' (n + 1) (xs.take (i * 2) ++ (rr ++ xs.drop (i * 2))) ∧ w.grownBy w' (some g) ∧ ∀ g', v'.ownBlock = some g' → some g = some g' ∨ w.heap.size ≤ g' := by
  obtain ⟨i0, hi0, hz0, hz1, hz2⟩ := info_parts info.rule
  obtain ⟨cur, hg, hBg, hgw, hnc, hcm, hcl, htake⟩ := own_block hv
  have hxl0 : xs.length = n * 2 := hv.1
  have hxl : (xs.drop (i * 2)).length = (n - i) * 2 := by rw [List.length_drop]; omega
  obtain ⟨c1, hc1⟩ : ∃ c1, c1 = splice cur ((i + 1) * 2) (xs.drop (i * 2)) := ⟨_, rfl⟩
  have hfit : (i + 1) * 2 + (xs.drop (i * 2)).length ≤ cur.length := by omega
  have hc1l : c1.length = cur.length := by rw [hc1]; exact length_splice _ _ _ hfit
  have hg1 : (w.drew.setRow g c1.toArray).heap[g]? = some (.cells c1.toArray 55 (0, 0)) := setRow_heap w.drew g _ _ _ _ hg
  have hb1 : (w.drew.setRow g c1.toArray).heap[b]? = some (.cells rr.toArray tb (0, 0)) := (setRow_other w.drew g b _ hbg).trans hb
  have hcp1 : ∀ ty dc sc, (Builtin.copy_ #[23, 23] ty #[.slice (some ⟨g, (i + 1) * 2, none⟩) (n + 1 - (i + 1)) dc, .slice (some ⟨g, i * 2, none⟩) (n + 1 - i) sc]).run Try.prog w.drew = .ok (goInt (n - i : Nat)) (w.drew.setRow g c1.toArray) := fun ty dc sc => by
    have := run_copyZ (P := Try.prog) w.drew _ 23 ty 55 i0 2 (n - i) g ((i + 1) * 2) (n + 1 - (i + 1)) dc ⟨g, i * 2, none⟩ (n + 1 - i) sc cur.toArray 55 (xs.drop (i * 2)) Try.underlying23 hi0 hz1 hg (by simp only [Nat.min_def]; split <;> omega) hxl
      (block_cells (w := w.drew) hg (i * 2) (fun j u hj => by
        rw [List.getElem?_drop, ← htake, List.getElem?_take] at hj
        split at hj
        · exact hj
        · cases hj)) (by simpa using hfit) (fun u hu => hx1 u (List.mem_of_mem_drop hu))
    rw [this, hc1]
    simp [splice]
  have hcp2 : ∀ ty dc, (Builtin.copy_ #[23, 23] ty #[.slice (some ⟨g, i * 2, none⟩) (n + 1 - i) dc, .slice (some ⟨b, 0, none⟩) 1 1]).run Try.prog (w.drew.setRow g c1.toArray) = .ok (goInt (1 : Nat)) ((w.drew.setRow g c1.toArray).setRow g (splice c1 (i * 2) rr).toArray) := fun ty dc => by
    have := run_copyZ (P := Try.prog) (w.drew.setRow g c1.toArray) _ 23 ty 55 i0 2 1 g (i * 2) (n + 1 - i) dc ⟨b, 0, none⟩ 1 1 c1.toArray 55 rr Try.underlying23 hi0 hz1 hg1 (by simp only [Nat.min_def]; split <;> omega) (by omega)
      (block_cells hb1 0 (fun j u hj => by rw [Nat.zero_add]; exact hj)) (by simp; omega) hr1
    rw [this]
    simp [splice]
  have hov : ∀ o lb cb, (callFunc 94 #[.slice (some ⟨b, 0, none⟩) 1 1, .slice (some ⟨g, o, none⟩) lb cb]).run Try.prog w = .ok (.value (.bool false)) w := fun o lb cb =>
    overlaps_run w b g o 1 1 lb cb hbg tb 55 rr.length cur.length (by simp [World.shape?, hb]) (by simp [World.shape?, hg]) (by omega) (by simp [World.frozen?, hb]) (by simp [World.frozen?, hb])
  have hfin : ((w.drew.setRow g c1.toArray).setRow g (splice c1 (i * 2) rr).toArray).ownsRow B 55 2 (.slice (some ⟨g, 0, none⟩) (n + 1) cap) (n + 1) (xs.take (i * 2) ++ (rr ++ xs.drop (i * 2))) :=
    own_of_block (setRow_heap _ g _ _ _ _ hg1) hBg hroom hcm (by rw [length_splice _ _ _ (by omega)]; omega) (by rw [hc1]; exact splice_mid cur xs rr i n htake hrr (by omega) (by omega))
  have hbel : w.grownBy ((w.drew.setRow g c1.toArray).setRow g (splice c1 (i * 2) rr).toArray) (some g) := grown_set (grown_set (grown_drew (grown_refl w _)) _) _
  have hc63 : cap ≤ 9223372036854775807 := by unfold maxLen at hcm; omega
  have HF := Lib.hid hfin
  clear hfin hcm hcl hxl0 hxl hfit hc1l hg1 hb1 htake hi0 hz0 hz1 hz2 hrr hx1 hr1 hg hb hc1 hv hgw
  have hw1 : IntKind.i64.wrap ((i : Int) + 1) = (i : Int) + 1 := by rw [IntKind.wrap_i64]; omega
  have hb1 : (0 : Int) ≤ (i : Int) + 1 := by omega
  have hin : i ≤ n := by omega
  have htn : ((i : Int) + 1).toNat = i + 1 := by omega
  have hb2 : ¬ (cap = i + 1) := by omega
  have hb3 : (i : Int) ≤ (n : Int) + 1 := by omega
  have hb4 : ¬ (cap = i) := by omega
  have hz2' : ¬ ((i : Int) = (n : Int)) := by omega
  have mixed : Try.prog.follows Departure.mixedOrders = true := by kernel_rfl
  go_enter Try.func76, Try.ntmps76
  go_wp2_with (simp only [hov])
  go_region_law_o (refine step_copy_runI rfl _ _ 23 23 rfl (.slice (some ⟨g, (i + 1) * 2, none⟩) (n + 1 - (i + 1)) (cap - (i + 1))) (.slice (some ⟨g, i * 2, none⟩) (n + 1 - i) (cap - i)) (by simp [Act.eval, Act.put]) (by simp [Act.eval, Act.put]) (hcp1 _ _ _) ?_)
  go_wp2_with (at_builtin; refine wpList_copy_runI _ rfl _ _ 23 23 rfl _ _ rfl rfl (hcp2 _ _) ?_)
  go_ret
  exact ⟨_, rfl, HF.out, hbel, fun g' e => .inl e⟩
set_option maxRecDepth 100000 in
set_option maxHeartbeats 4000000 in
/-- There is no room. -/
theorem insert_grow (w : World) (B g cap n i b : Nat) (tb : TypeId) (xs rr : List Value) (hv : w.ownsRow B 55 2 (.slice (some ⟨g, 0, none⟩) n cap) n xs) (hn : n ≤ 8) (hi : i < n) (hroom : cap < n + 1) (hrr : rr.length = 2)
    (hx1 : ∀ u ∈ xs, u.oneCell' = true) (hr1 : ∀ u ∈ rr, u.oneCell' = true) (hb : w.heap[b]? = some (.cells rr.toArray tb (0, 0))) (hB : B ≤ w.heap.size) :
    Calls Try.prog 76 #[.slice (some ⟨g, 0, none⟩) n cap, .int .i64 i, .slice (some ⟨b, 0, none⟩) 1 1] w fun e w' => ∃ v', e = .returned v' ∧ w'.ownsRow B 55 2 v' (n + 1) (xs.take (i * 2) ++ (rr ++ xs.drop (i * 2))) ∧ w.grownBy w' (some g) ∧ ∀ g', v'.ownBlock = some g' → some g = some g' ∨ w.heap.size ≤ g' := by
  obtain ⟨i0, hi0, hz0, hz1, hz2⟩ := info_parts info.rule
  obtain ⟨cur, hg, hBg, hgw, hnc, hcm, hcl, htake⟩ := own_block hv
  have hbw : b < w.heap.size := (Array.getElem?_eq_some_iff.1 hb).1
  have hxl0 : xs.length = n * 2 := hv.1
  have hxl : (xs.drop (i * 2)).length = (n - i) * 2 := by rw [List.length_drop]; omega
  have hxt : (xs.take (i * 2)).length = i * 2 := by rw [List.length_take]; omega
  have hcur : ∀ j u, xs[j]? = some u → cur[j]? = some u := fun j u hj => by
    rw [← htake, List.getElem?_take] at hj
    split at hj
    · exact hj
    · cases hj
  have hold : (Builtin.firstCells i0.size i (.slice (some ⟨g, 0, none⟩) i cap)).run Try.prog w.drew = .ok (xs.take (i * 2)).toArray w.drew :=
    run_firstCells_some (P := Try.prog) w.drew i0.size i ⟨g, 0, none⟩ i cap _ (by rw [hxt, hz1]) (block_cells (w := w.drew) hg 0 (fun j u hj => by
      rw [Nat.zero_add]
      rw [List.getElem?_take] at hj
      split at hj
      · exact hcur j u hj
      · cases hj))
  have hik : i + (n + 1 - i) = n + 1 := by omega
  have hkk : ((n : Int) + 1 - (i : Int)) = ((n + 1 - i : Nat) : Int) := by omega
  have hbig : (n + 1) * 32 ≤ 140737488355328 := by omega
  have hrz0 := fun ty => Lib.run_append_grow_zeros w 23 3 ty 55 i0 _ .i64 .i64 Try.underlying23 Try.underlying3 hi0 hz0 (some ⟨g, 0, none⟩) i cap (xs.take (i * 2)) hold (n + 1 - i) (by omega) (by omega) (by omega) (by omega) (by rw [hz2]; omega) (by rw [hz2, hik]; exact growslice_fits hroom hbig)
  obtain ⟨G, hG⟩ : ∃ G, G = grownCap w (n + 1) cap 55 := ⟨_, rfl⟩
  obtain ⟨c0, hc0⟩ : ∃ c0 : List Value, c0 = ((xs.take (i * 2)).toArray ++ Builtin.zeroCells (Value.agg #[.string ⟨#[]⟩, .string ⟨#[]⟩]).cells (n + 1 - i) ++ Builtin.zeroCells (Value.agg #[.string ⟨#[]⟩, .string ⟨#[]⟩]).cells (G - (n + 1))).toList := ⟨_, rfl⟩
  have hGn : n + 1 ≤ G := by rw [hG]; exact grownCap_ge w _ _ _
  have hGm : G ≤ maxLen := by rw [hG]; exact grownCap_le_maxLen w _ _ _ (by unfold maxLen; omega)
  have hc0l : c0.length = G * 2 := by
    rw [hc0]
    simp only [Array.length_toList, Array.size_append, List.size_toArray, size_zeroCells, hxt]
    have : (Value.agg #[.string ⟨#[]⟩, .string ⟨#[]⟩]).cells.size = 2 := rfl
    rw [this]
    omega
  have hc0t : c0.take (i * 2) = xs.take (i * 2) := by
    rw [hc0]
    simp only [Array.toList_append, List.append_assoc]
    rw [List.take_append_of_le_length (by omega), List.take_take]
    simp
  have hrz : ∀ ty, (Builtin.append_ #[23, 3] ty #[.slice (some ⟨g, 0, none⟩) i cap, .int .i64 ((n : Int) + 1 - (i : Int))]).run Try.prog w =
      .ok (.slice (some ⟨w.heap.size, 0, none⟩) (n + 1) G) (w.drew.alloc (.cells c0.toArray 55)) := fun ty => by
    have h := hrz0 ty
    rw [hik, ← hG] at h
    rw [hkk, h, hc0]
  obtain ⟨W1, hW1⟩ : ∃ W1, W1 = w.drew.alloc (.cells c0.toArray 55) := ⟨_, rfl⟩
  obtain ⟨H, hH⟩ : ∃ H, H = w.heap.size := ⟨_, rfl⟩
  have hbl : w.grownBy W1 (some g) := by rw [hW1]; exact ⟨rfl, rfl, rfl, by simp, fun k hk _ => heap_alloc_old w.drew _ hk⟩
  have hg1 : W1.heap[H]? = some (.cells c0.toArray 55 (0, 0)) := by rw [hW1, hH]; exact heap_alloc_new w.drew _
  have hob1 : W1.heap[b]? = some (.cells rr.toArray tb (0, 0)) := by rw [hW1]; exact (heap_alloc_old w.drew _ hbw).trans hb
  have hog1 : W1.heap[g]? = some (.cells cur.toArray 55 (0, 0)) := by rw [hW1]; exact (heap_alloc_old w.drew _ hgw).trans hg
  rw [← hW1, ← hH] at hrz
  have hBH : B ≤ H := by omega
  have hgH : g ≠ H := by omega
  have hcA : ∀ ty dc, (Builtin.copy_ #[23, 23] ty #[.slice (some ⟨H, i * 2, none⟩) (n + 1 - i) dc, .slice (some ⟨b, 0, none⟩) 1 1]).run Try.prog W1 = .ok (goInt (1 : Nat)) (W1.setRow H (splice c0 (i * 2) rr).toArray) := fun ty dc => by
    have := run_copyZ (P := Try.prog) W1 _ 23 ty 55 i0 2 1 H (i * 2) (n + 1 - i) dc ⟨b, 0, none⟩ 1 1 c0.toArray 55 rr Try.underlying23 hi0 hz1 hg1 (by simp only [Nat.min_def]; split <;> omega) (by omega)
      (block_cells hob1 0 (fun j u hj => by rw [Nat.zero_add]; exact hj)) (by simp; omega) hr1
    rw [this]
    simp [splice]
  obtain ⟨W2, hW2⟩ : ∃ W2, W2 = W1.setRow H (splice c0 (i * 2) rr).toArray := ⟨_, rfl⟩
  have hg2 : W2.heap[H]? = some (.cells (splice c0 (i * 2) rr).toArray 55 (0, 0)) := by rw [hW2]; exact setRow_heap W1 H _ _ _ _ hg1
  have hog2 : W2.heap[g]? = some (.cells cur.toArray 55 (0, 0)) := by rw [hW2]; exact (setRow_other W1 H g _ hgH).trans hog1
  have hbl2 : w.grownBy W2 (some g) := by rw [hW2]; exact grown_new hbl (by omega) _
  have hl1 : (splice c0 (i * 2) rr).length = G * 2 := by rw [length_splice _ _ _ (by omega)]; exact hc0l
  rw [← hW2] at hcA
  have hcB : ∀ ty dc sc, (Builtin.copy_ #[23, 23] ty #[.slice (some ⟨H, (i + 1) * 2, none⟩) (n + 1 - (i + 1)) dc, .slice (some ⟨g, i * 2, none⟩) (n - i) sc]).run Try.prog W2.drew = .ok (goInt (n - i : Nat)) (W2.drew.setRow H (splice (splice c0 (i * 2) rr) ((i + 1) * 2) (xs.drop (i * 2))).toArray) := fun ty dc sc => by
    have := run_copyZ (P := Try.prog) W2.drew _ 23 ty 55 i0 2 (n - i) H ((i + 1) * 2) (n + 1 - (i + 1)) dc ⟨g, i * 2, none⟩ (n - i) sc (splice c0 (i * 2) rr).toArray 55 (xs.drop (i * 2)) Try.underlying23 hi0 hz1 hg2 (by simp only [Nat.min_def]; split <;> omega) hxl
      (block_cells (w := W2.drew) hog2 (i * 2) (fun j u hj => hcur _ u (by rw [List.getElem?_drop] at hj; exact hj))) (by simp; omega) (fun u hu => hx1 u (List.mem_of_mem_drop hu))
    rw [this]
    simp [splice]
  obtain ⟨W3, hW3⟩ : ∃ W3, W3 = W2.drew.setRow H (splice (splice c0 (i * 2) rr) ((i + 1) * 2) (xs.drop (i * 2))).toArray := ⟨_, rfl⟩
  rw [← hW3] at hcB
  have hfin : W3.ownsRow B 55 2 (.slice (some ⟨H, 0, none⟩) (n + 1) G) (n + 1) (xs.take (i * 2) ++ (rr ++ xs.drop (i * 2))) := by
    rw [hW3]
    exact own_of_block (setRow_heap _ H _ _ _ _ hg2) hBH hGn hGm (by rw [length_splice _ _ _ (by omega)]; omega) (splice_mid2 (xs.take (i * 2)) rr (xs.drop (i * 2)) i n hxt hrr hxl (by omega) c0 (by omega) hc0t)
  have hbel : w.grownBy W3 (some g) := by rw [hW3]; exact grown_new (grown_drew hbl2) (by omega) _
  have hc63 : cap ≤ 9223372036854775807 := by unfold maxLen at hcm; omega
  have hG63 : G ≤ 9223372036854775807 := by unfold maxLen at hGm; omega
  have HF := Lib.hid hfin
  clear hfin hcm hcl hxl0 hxl hxt hg1 hog1 hob1 htake hi0 hz0 hz1 hz2 hrr hx1 hr1 hg hb hc0 hv hgw hcur hold hrz0 hG hGm hc0l hc0t hW1 hW2 hW3 hg2 hog2 hl1 hbl hbl2 hkk hik hbig hbw hB hgH
  have hHH : w.heap.size ≤ H := by omega
  clear hH
  have hw1 : IntKind.i64.wrap ((i : Int) + 1) = (i : Int) + 1 := by rw [IntKind.wrap_i64]; omega
  have hb1 : (0 : Int) ≤ (i : Int) + 1 := by omega
  have hin : i ≤ n := by omega
  have htn : ((i : Int) + 1).toNat = i + 1 := by omega
  have hGi : ¬ (G = i) := by omega
  have hGim : ¬ (G = i + 1) := by omega
  have hb3 : (i : Int) ≤ (n : Int) := by omega
  have hb4 : ¬ (cap = i) := by omega
  have hz2' : ¬ ((i : Int) = (n : Int)) := by omega
  have mixed : Try.prog.follows Departure.mixedOrders = true := by kernel_rfl
  go_enter Try.func76, Try.ntmps76
  go_wp2_with (first
    | (at_builtin; refine Lib.wpList_append_run _ rfl _ _ _ _ rfl _ _ rfl rfl _ _ (hrz _) ?_)
    | (at_builtin; refine wpList_copy_runI _ rfl _ _ 23 23 rfl _ _ rfl rfl (hcA _ _) ?_))
  go_region_law_o (refine step_copy_runI rfl _ _ 23 23 rfl (.slice (some ⟨H, (i + 1) * 2, none⟩) (n + 1 - (i + 1)) (G - (i + 1))) (.slice (some ⟨g, i * 2, none⟩) (n - i) (cap - i)) (by simp [Act.eval, Act.put]) (by simp [Act.eval, Act.put]) (hcB _ _ _) ?_)
  go_wp2
  go_ret
  exact ⟨_, rfl, HF.out, hbel, fun g' e => by
    have e2 : H = g' := by simpa [Value.ownBlock] using e
    exact .inr (by rw [← e2]; exact hHH)⟩
theorem rules_ins (rs : List RuleV) (r : RuleV) (i : Nat) : (rs.take i ++ r :: rs.drop i).flatMap rv = (rs.flatMap rv).take (i * 2) ++ (rv r ++ (rs.flatMap rv).drop (i * 2)) := by
  induction rs generalizing i with
  | nil => simp
  | cons x l ih =>
    cases i with
    | zero => simp
    | succ i =>
      have e : (i + 1) * 2 = i * 2 + 1 + 1 := by omega
      rw [List.take_succ_cons, List.drop_succ_cons, List.cons_append, List.flatMap_cons, ih i, List.flatMap_cons, e]
      simp [rv]
/-- A rule put at any place. -/
theorem insert_any (w : World) (B i b : Nat) (tb : TypeId) (v : Value) (rs : List RuleV) (r : RuleV) (hv : w.ownsRow B 55 2 v rs.length (rs.flatMap rv)) (hn : rs.length ≤ 8) (hi : i ≤ rs.length)
    (hb : w.heap[b]? = some (.cells (rv r).toArray tb (0, 0))) (hbo : v.ownBlock ≠ some b) (hB : B ≤ w.heap.size) :
    Calls Try.prog 76 #[v, .int .i64 i, .slice (some ⟨b, 0, none⟩) 1 1] w fun e w' => ∃ v', e = .returned v' ∧ w'.ownsRow B 55 2 v' (rs.length + 1) ((rs.take i ++ r :: rs.drop i).flatMap rv) ∧ w.grownBy w' v.ownBlock ∧ ∀ g, v'.ownBlock = some g → v.ownBlock = some g ∨ w.heap.size ≤ g := by
  by_cases hlt : i < rs.length
  · rw [rules_ins]
    obtain ⟨g, cap, rfl⟩ : ∃ g cap, v = .slice (some ⟨g, 0, none⟩) rs.length cap := by
      rcases hv.2 with ⟨_, h0⟩ | ⟨g, cap, cur, h, _⟩
      · omega
      · exact ⟨g, cap, h⟩
    have hbg : b ≠ g := fun e => hbo (by rw [e]; rfl)
    by_cases hroom : rs.length + 1 ≤ cap
    · exact insert_room w B g cap rs.length i b tb (rs.flatMap rv) (rv r) hv hn hlt hroom rfl rules_one (rule_one r) hb hbg
    · exact insert_grow w B g cap rs.length i b tb (rs.flatMap rv) (rv r) hv hn hlt (by omega) rfl rules_one (rule_one r) hb hB
  · obtain rfl : i = rs.length := by omega
    rw [List.take_length, List.drop_length]
    exact insert_end w B v rs r hv hn hB ⟨b, 0, none⟩ 1 (block_cells hb 0 (fun j u hj => by rw [Nat.zero_add]; exact hj))
end Go.Proofs.Ytfblpibioegmkaa
