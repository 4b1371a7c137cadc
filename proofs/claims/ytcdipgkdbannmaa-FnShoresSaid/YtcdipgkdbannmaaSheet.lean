/- Sheets by value: sized, copied, compared, marked, held. -/
import Derived.Test.YtcdipgkdbannmaaF32
namespace Go.Proofs.Ytcdipgkdbannmaa
open Go.RowKit

theorem cells_below {W w1 : World} (hb : Below W.heap.size W w1) : (∀ b o, b < W.heap.size → w1.cell? ⟨b, o, none⟩ = W.cell? ⟨b, o, none⟩) ∧ (∀ b o, b < W.heap.size → w1.frozen? ⟨b, o, none⟩ = W.frozen? ⟨b, o, none⟩) :=
  ⟨fun b o h => hb.cell (p := ⟨b, o, none⟩) h, fun b o h => hb.frozen (p := ⟨b, o, none⟩) h⟩
/-- A sheet by value. -/
abbrev shv (sw sh : Int) (A : Option Addr) (n c : Nat) : Value := .agg #[.int .i64 sw, .int .i64 sh, .slice A n c]

theorem szSheet_few (sw sh : Int) (A : Option Addr) (n c : Nat) (left : Nat) (w : World) (hl : left ≤ 1048576) (h : n ≤ left) :
    Calls Try.prog 9 #[shv sw sh A n c, .int .i64 left] w fun e w' => e = .returned (.int .i64 (left - n : Nat)) ∧ Below w.heap.size w w' := by
  have h' : (n : Int) ≤ left := by omega
  go_enter Try.func9, Try.ntmps9
  go_wp2
  go_ret
  exact ⟨ret_int (by omega), by go_grown⟩
theorem szSheet_many (sw sh : Int) (A : Option Addr) (n c : Nat) (left : Nat) (w : World) (hl : left ≤ 1048576) (h : left < n) (hn : n ≤ maxLen) :
    Calls Try.prog 9 #[shv sw sh A n c, .int .i64 left] w fun e w' => e = .returned (.int .i64 (-1)) ∧ Below w.heap.size w w' := by
  unfold maxLen at hn
  have h' : (left : Int) < n := by omega
  go_enter Try.func9, Try.ntmps9
  go_wp2
  go_ret
  exact ⟨rfl, by go_grown⟩

/-- A sheet of the call's own. -/
def NewSh (w : World) (sw sh : Int) (xs : List Nat) (e : Ending) (w' : World) : Prop :=
  ∃ B c, e = .returned (shv sw sh B xs.length c) ∧ OwnS w.heap.size w' B (xs.map fv) ∧ Below w.heap.size w w'

theorem toSheet_any (sw sh : Int) (A : Option Addr) (c : Nat) (xs : List Nat) (w : World) (hA : FRd w A xs) (hn : xs.length ≤ 2097152) :
    Calls Try.prog 11 #[shv sw sh A xs.length c] w (NewSh w sw sh xs) := by
  go_enter Try.func11, Try.ntmps11
  go_wp2_with fail
  refine (toF32_any _ _ _ _ (((Rd.below hA (below_alloc _ _)).below (below_alloc _ _)).below (below_alloc _ _)) hn).mono ?_
  rintro e w1 ⟨B, c1, rfl, o1, k1⟩
  obtain ⟨hc, hf⟩ := cells_below k1
  have hz := k1.size
  simp only [World.size_alloc] at hz
  have K1 := Below.step (Below.step (Below.step (below_alloc w _) (below_alloc _ _)) (below_alloc _ _)) k1
  have hz1 : w.heap.size + 1 < w1.heap.size := by omega
  have hz2 : w.heap.size + 2 < w1.heap.size := by omega
  have o1' : OwnS (w.heap.size + 3) w1 B (xs.map fv) := by simpa [World.size_alloc] using o1
  have O1 := Lib.hid o1'
  have KK := Lib.hid K1
  clear k1 o1 o1' K1
  go_wp2
  refine bodyPost_ret (v := shv sw sh B xs.length c1) (by simp [results, Try.results11, go_sem, hc]) rfl ?_
  refine ⟨B, c1, rfl, ?_, ?_⟩
  · have kp : Keep (fun k => k < w.heap.size + 3) w1 ((((w1.setCell ⟨w.heap.size + 1 + 1, 2, none⟩ (.slice B xs.length c1)).setCell ⟨w.heap.size + 1, 0, none⟩ (.int .i64 sw)).setCell ⟨w.heap.size + 1, 1, none⟩ (.int .i64 sh)).setCell ⟨w.heap.size + 1, 2, none⟩ (.slice B xs.length c1)) :=
      ((((Keep.refl _ w1).setCell (.inl (by show _ < _; simp only []; omega)) _).setCell (.inl (by show _ < _; simp only []; omega)) _).setCell (.inl (by show _ < _; simp only []; omega)) _).setCell (.inl (by show _ < _; simp only []; omega)) _
    exact (O1.out.keep kp (fun b hb => by have := (O1.out.2.2 b hb).1; omega)).less (by omega)
  · exact (((KK.out.setCell (by simp only []; omega) _).setCell (by simp only []; omega) _).setCell (by simp only []; omega) _).setCell (by simp only []; omega) _

theorem eqSheet_ok (sw sh : Int) (A B : Option Addr) (ca cb : Nat) (xs ys : List Nat) (w : World) (hA : FRd w A xs) (hB : FRd w B ys) (hn : xs.length ≤ maxLen) (he : xs.map (cn .f32) = ys.map (cn .f32)) :
    Calls Try.prog 14 #[shv sw sh A xs.length ca, shv sw sh B ys.length cb] w fun e w' => e = .returned (.bool true) ∧ Below w.heap.size w w' := by
  have HE := Lib.hid he
  clear he
  go_enter Try.func14, Try.ntmps14
  go_wp2_with fail
  refine (eqF32_ok _ _ _ _ _ _ _ ((Rd.below hA (below_alloc _ _)).below (below_alloc _ _)) ((Rd.below hB (below_alloc _ _)).below (below_alloc _ _)) hn HE.out).mono ?_
  rintro e w1 ⟨rfl, n, rfl⟩
  go_wp2
  go_ret
  exact ⟨rfl, below_drewN (Below.step (below_alloc _ _) (below_alloc _ _)) _⟩

theorem markSheet_any (sw sh : Int) (A : Option Addr) (n c : Nat) (q : Int) (k : Nat) (hq : q = k) (w : World) (hw : WrA w A n) (hb : ∀ b, InA A b → b < w.heap.size) (h1 : k ≤ 4611686018427387904 / 4) (hn : n ≤ 4611686018427387904 / 4) :
    Calls Try.prog 20 #[shv sw sh A n c, .int .i64 q] w fun e w' => e = .returned (.int .i64 (k + n : Nat)) ∧ Keep (InA A) w w' ∧ FRd w' A (fmarks k n) := by
  subst hq
  go_enter Try.func20, Try.ntmps20
  go_wp2_with fail
  refine (markF32_any _ _ _ _ k rfl _ (hw.below (below_alloc _ _)) (fun b h => Nat.lt_of_lt_of_le (hb b h) (size_alloc_lt _ _)) h1 hn).mono ?_
  rintro e w1 ⟨rfl, k1, r1⟩
  go_wp2
  go_ret
  exact ⟨rfl, (Keep.of_below (below_alloc _ _)).trans k1, r1⟩

end Go.Proofs.Ytcdipgkdbannmaa
