/- Letters counted: vectors of 27 numbers, lettersOf and l04Letters. -/
import Derived.Test.YtfblpibioegmkaaG6
namespace Go.Proofs.Ytfblpibioegmkaa
open Go.RowKit

/-- 27 numbers at the head of block b, which may be written. -/
structure Vec (w : World) (b : Nat) (f : Nat → Int) : Prop where
  lt : b < w.heap.size
  c : ∀ j, j < 27 → w.cell? ⟨b, j, none⟩ = some (.int .i64 (f j))
  z : ∀ j, j < 27 → w.frozen? ⟨b, j, none⟩ = false
def upd (f : Nat → Int) (j : Nat) (v : Int) : Nat → Int := fun i => if i = j then v else f i
theorem Vec.keep {S : Nat → Prop} {w w' : World} {b : Nat} {f : Nat → Int} (h : Vec w b f) (k : Keep S w w') (hs : ¬ S b) : Vec w' b f :=
  ⟨Nat.lt_of_lt_of_le h.lt k.size, fun j hj => (World.cell?_of_block (w := w) (k.block b h.lt hs)).trans (h.c j hj), fun j hj => (World.frozen?_of_block (w := w) (k.block b h.lt hs)).trans (h.z j hj)⟩
theorem Vec.below {w w' : World} {b : Nat} {f : Nat → Int} (h : Vec w b f) (k : Below w.heap.size w w') : Vec w' b f := h.keep (Keep.of_below (S := fun _ => False) k) id
theorem Vec.put {w : World} {b : Nat} {f : Nat → Int} (h : Vec w b f) (i : Nat) (v : Int) : Vec (w.setCell ⟨b, i, none⟩ (.int .i64 v)) b (upd f i v) := by
  refine ⟨by simpa [World.setCell] using h.lt, fun j hj => ?_, fun j hj => by simpa using h.z j hj⟩
  unfold upd
  by_cases e : j = i
  · subst e
    rw [if_pos rfl]
    exact World.cell?_setCell_same _ _ _ (h.c j hj)
  · rw [if_neg e]
    exact (World.cell?_setCell_other _ _ _ _ (by simp <;> omega)).trans (h.c j hj)
theorem Vec.congr {w : World} {b : Nat} {f g : Nat → Int} (h : Vec w b f) (e : ∀ j, j < 27 → f j = g j) : Vec w b g := ⟨h.lt, fun j hj => by rw [← e j hj]; exact h.c j hj, h.z⟩
theorem info.i64 : (Try.prog.info? 2).map (fun i => (i.zero, i.size, i.bytes)) = some (some (.int .i64 0), 1, 8) := by kernel_rfl
theorem made_eq : (madeCells (Value.int .i64 0).cells (27 * 1)).toList = List.replicate 27 (.int .i64 0) := by kernel_rfl
theorem made_zero (j : Nat) (hj : j < 27) : (madeCells (Value.int .i64 0).cells (27 * 1)).toList[j]? = some (.int .i64 0) := by
  rw [made_eq, List.getElem?_replicate, if_pos hj]
theorem vec_own {w : World} {base g : Nat} {e : TypeId} (h : w.ownsRow base e 1 (.slice (some ⟨g, 0, none⟩) 27 27) 27 (madeCells (Value.int .i64 0).cells (27 * 1)).toList) : Vec w g (fun _ => 0) := by
  refine ⟨(h.lt g rfl).2, fun j hj => ?_, fun j hj => ?_⟩
  · have := h.cells (g := g) rfl j _ (made_zero j hj)
    rw [Addr.add_lit] at this
    simpa using this
  · rcases h.2 with ⟨_, hn⟩ | ⟨g', cap, cur, hv, hg, hh, hrest⟩
    · omega
    · injection hv with hA'
      injection hA' with hA'
      injection hA' with h1 h2
      subst h1
      unfold World.frozen?
      rw [hh]
      simp
def idxL (c : UInt8) : Nat := if 65 ≤ c.toNat ∧ c.toNat ≤ 90 then c.toNat - 65 else 26
def cnt (l : List UInt8) (j : Nat) : Int := (l.countP (fun c => idxL c == j) : Nat)
theorem idxL_lt (c : UInt8) : idxL c < 27 := by unfold idxL; split <;> omega
theorem cnt_snoc (l : List UInt8) (c : UInt8) (j : Nat) : cnt (l ++ [c]) j = upd (cnt l) (idxL c) (cnt l (idxL c) + 1) j := by
  unfold upd cnt
  rw [List.countP_append, List.countP_singleton]
  by_cases e : j = idxL c
  · subst e; simp
  · rw [if_neg e]
    have : (idxL c == j) = false := by simp; omega
    rw [this]
    simp
theorem cnt_le (l : List UInt8) (j : Nat) : 0 ≤ cnt l j ∧ cnt l j ≤ l.length := by
  unfold cnt
  have := List.countP_le_length (p := fun c => idxL c == j) (l := l)
  omega
/-- The letters of a text, counted, in new memory. -/
def LetR (w : World) (l : List UInt8) (e : Ending) (w' : World) : Prop := ∃ g, e = .returned (.slice (some ⟨g, 0, none⟩) 27 27) ∧ w.heap.size ≤ g ∧ Vec w' g (cnt l) ∧ Below w.heap.size w w'
set_option maxRecDepth 100000 in
set_option maxHeartbeats 2000000 in
theorem lettersOf_any (t : ByteArray) (w : World) (ht : t.size ≤ 4000) : Calls Try.prog 69 #[.string t] w (LetR w t.data.toList) := by
  obtain ⟨i0, hi, hz0, hz1, hz2⟩ := info_parts info.i64
  go_enter Try.func69, Try.ntmps69
  go_wp2_with (first | (at_make; refine wpList_make_full _ rfl _ _ 45 rfl w.heap.size 2 i0 (.int .i64 0) 1 Try.underlying45 hi hz0 hz1 _ _ _ _ 27 rfl rfl rfl rfl (by rw [hz2]; omega) (by unfold maxLen; omega) (Nat.le_refl _) ?_))
  intro w1 hown hgrow
  have hb1 : Below w.heap.size w w1 := (Below.refl _ _).grown hgrow (Nat.le_refl _) (fun k h => by cases h)
  have hv1 := vec_own hown
  clear hown hgrow hi hz0 hz1 hz2
  go_wp2_with fail
  go_loopw [8] (fun iv wr => ∃ k : Nat, k ≤ t.size ∧ iv = .int .i64 k ∧ Vec wr w.heap.size (cnt (t.data.toList.take k)) ∧ Below w.heap.size w wr) (fun iv _ => t.size - (intOf iv).toNat)
  case atStart => exact ⟨0, Nat.zero_le _, rfl, hv1.congr (fun j _ => rfl), hb1⟩
  case round =>
    clear hv1 hb1
    obtain ⟨k, hk, rfl, hV, hbel⟩ := hrel
    by_cases hlt : k < t.size
    · have hki : (k : Int) < t.size := by omega
      have hs := Lib.hid (fun j (_ : j < 27) => (cnt_snoc (t.data.toList.take k) t[k] j).symm.trans (by rw [take_snoc t k hlt]) : ∀ j, j < 27 → upd (cnt (t.data.toList.take k)) (idxL t[k]) (cnt (t.data.toList.take k) (idxL t[k]) + 1) j = cnt (t.data.toList.take (k + 1)) j)
      have hcl := cnt_le (t.data.toList.take k) (idxL t[k])
      have hcl2 : cnt (t.data.toList.take k) (idxL t[k]) ≤ 4000 := by
        have : (t.data.toList.take k).length ≤ k := List.length_take_le _ _
        omega
      have hwr : IntKind.i64.wrap (cnt (t.data.toList.take k) (idxL t[k]) + 1) = cnt (t.data.toList.take k) (idxL t[k]) + 1 := IntWalk.i64_in _ (by omega)
      have c0 := hV.c (idxL t[k]) (idxL_lt _)
      have z0 := hV.z (idxL t[k]) (idxL_lt _)
      have hP := Lib.hid (hV.put (idxL t[k]) (cnt (t.data.toList.take k) (idxL t[k]) + 1))
      generalize cnt (t.data.toList.take k) (idxL t[k]) = v at hwr c0 hP hs
      cases hl : ltr (t[k].toNat : Int)
      · have hi : idxL t[k] = 26 := by
          unfold idxL
          rw [if_neg]
          intro h
          unfold ltr at hl
          simp at hl
          omega
        rw [hi] at c0 z0 hP hs
        go_wp2_with (go_at_call 52; refine (isLetter_any _ _).mono ?_; rintro e w' ⟨rfl, rfl⟩; rw [hl])
        go_roundw
        case rel => exact ⟨k + 1, by omega, by go_num, hP.out.congr hs.out, hbel.setCell (Nat.le_refl _) _⟩
        case measure => simp [intOf]; omega
      · have hl2 := hl
        unfold ltr at hl2
        rw [Bool.and_eq_true, decide_eq_true_eq, decide_eq_true_eq] at hl2
        have hi : idxL t[k] = ((t[k].toNat : Int) - 65).toNat := by
          unfold idxL
          rw [if_pos (by omega)]
          omega
        have u1 : IntKind.u8.wrap ((t[k].toNat : Int) - 65) = (t[k].toNat : Int) - 65 := IntWalk.u8_in _ (by omega)
        obtain ⟨q, hq⟩ : ∃ q : Nat, (t[k].toNat : Int) - 65 = q := ⟨((t[k].toNat : Int) - 65).toNat, by omega⟩
        rw [hq] at u1 hi
        rw [Int.toNat_natCast] at hi
        rw [hi] at c0 z0 hP hs
        have q1 : q < 27 := by omega
        have q2 : (q : Int) < 27 := by omega
        go_wp2_with (go_at_call 52; refine (isLetter_any _ _).mono ?_; rintro e w' ⟨rfl, rfl⟩; rw [hl])
        go_roundw
        case rel => exact ⟨k + 1, by omega, by go_num, hP.out.congr hs.out, hbel.setCell (Nat.le_refl _) _⟩
        case measure => simp [intOf]; omega
    · obtain rfl : k = t.size := by omega
      have hV2 : Hid (Vec wr w.heap.size (cnt t.data.toList)) := Lib.hid (by
        have := hV
        rwa [List.take_of_length_le (by show t.data.size ≤ t.size; exact Nat.le_refl _)] at this)
      go_wp2
      go_ret
      exact ⟨_, rfl, Nat.le_refl _, hV2.out, hbel⟩
set_option maxRecDepth 100000 in
set_option maxHeartbeats 2000000 in
theorem l04Letters_any (t : ByteArray) (w : World) (ht : t.size ≤ 4000) : Calls Try.prog 90 #[.string t] w (LetR w t.data.toList) := by
  obtain ⟨i0, hi, hz0, hz1, hz2⟩ := info_parts info.i64
  go_enter Try.func90, Try.ntmps90
  go_wp2_with (first | (at_make; refine wpList_make_full _ rfl _ _ 45 rfl w.heap.size 2 i0 (.int .i64 0) 1 Try.underlying45 hi hz0 hz1 _ _ _ _ 27 rfl rfl rfl rfl (by rw [hz2]; omega) (by unfold maxLen; omega) (Nat.le_refl _) ?_))
  intro w1 hown hgrow
  have hb1 : Below w.heap.size w w1 := (Below.refl _ _).grown hgrow (Nat.le_refl _) (fun k h => by cases h)
  have hv1 := vec_own hown
  clear hown hgrow hi hz0 hz1 hz2
  go_wp2_with fail
  go_loopw [4] (fun iv wr => ∃ k : Nat, k ≤ t.size ∧ iv = .int .i64 k ∧ Vec wr w.heap.size (cnt (t.data.toList.take k)) ∧ Below w.heap.size w wr) (fun iv _ => t.size - (intOf iv).toNat)
  case atStart => exact ⟨0, Nat.zero_le _, rfl, hv1.congr (fun j _ => rfl), hb1⟩
  case round =>
    clear hv1 hb1
    obtain ⟨k, hk, rfl, hV, hbel⟩ := hrel
    by_cases hlt : k < t.size
    · have hki : (k : Int) < t.size := by omega
      have hs := Lib.hid (fun j (_ : j < 27) => (cnt_snoc (t.data.toList.take k) t[k] j).symm.trans (by rw [take_snoc t k hlt]) : ∀ j, j < 27 → upd (cnt (t.data.toList.take k)) (idxL t[k]) (cnt (t.data.toList.take k) (idxL t[k]) + 1) j = cnt (t.data.toList.take (k + 1)) j)
      have hcl := cnt_le (t.data.toList.take k) (idxL t[k])
      have hcl2 : cnt (t.data.toList.take k) (idxL t[k]) ≤ 4000 := by
        have : (t.data.toList.take k).length ≤ k := List.length_take_le _ _
        omega
      have hwr : IntKind.i64.wrap (cnt (t.data.toList.take k) (idxL t[k]) + 1) = cnt (t.data.toList.take k) (idxL t[k]) + 1 := IntWalk.i64_in _ (by omega)
      have c0 := hV.c (idxL t[k]) (idxL_lt _)
      have z0 := hV.z (idxL t[k]) (idxL_lt _)
      have hP := Lib.hid (hV.put (idxL t[k]) (cnt (t.data.toList.take k) (idxL t[k]) + 1))
      generalize cnt (t.data.toList.take k) (idxL t[k]) = v at hwr c0 hP hs
      cases hl : ltr (t[k].toNat : Int)
      · have hi : idxL t[k] = 26 := by
          unfold idxL
          rw [if_neg]
          intro h
          unfold ltr at hl
          simp at hl
          omega
        rw [hi] at c0 z0 hP hs
        have hor : (t[k].toNat : Int) < 65 ∨ ((65 : Int) ≤ t[k].toNat ∧ (90 : Int) < t[k].toNat) := by
          unfold ltr at hl
          simp at hl
          omega
        rcases hor with hor | ⟨hor, hor2⟩
        all_goals
          go_wp2
          go_roundw
          case rel => exact ⟨k + 1, by omega, by go_num, hP.out.congr hs.out, hbel.setCell (Nat.le_refl _) _⟩
          case measure => simp [intOf]; omega
      · have hl2 := hl
        unfold ltr at hl2
        rw [Bool.and_eq_true, decide_eq_true_eq, decide_eq_true_eq] at hl2
        have hi : idxL t[k] = t[k].toNat - 65 := by
          unfold idxL
          rw [if_pos (by omega)]
        have u1 : IntKind.u8.wrap ((t[k].toNat : Int) - 65) = (t[k].toNat : Int) - 65 := IntWalk.u8_in _ (by omega)
        rw [hi] at c0 z0 hP hs
        have q3 : (65 : Int) ≤ t[k].toNat := by omega
        have q4 : (t[k].toNat : Int) ≤ 90 := by omega
        have q5 : (t[k].toNat : Int) - 65 < 27 := by omega
        have q6 : (t[k].toNat : Int) < 27 + 65 := by omega
        go_wp2
        go_roundw
        case rel => exact ⟨k + 1, by omega, by go_num, hP.out.congr hs.out, hbel.setCell (Nat.le_refl _) _⟩
        case measure => simp [intOf]; omega
    · obtain rfl : k = t.size := by omega
      have hV2 : Hid (Vec wr w.heap.size (cnt t.data.toList)) := Lib.hid (by
        have := hV
        rwa [List.take_of_length_le (by show t.data.size ≤ t.size; exact Nat.le_refl _)] at this)
      go_wp2
      go_ret
      exact ⟨_, rfl, Nat.le_refl _, hV2.out, hbel⟩
end Go.Proofs.Ytfblpibioegmkaa
