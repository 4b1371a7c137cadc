/- A sheet given with a yes or no: l05Give, ifSheet. -/
import Derived.Test.YtenepnbickpcjaaRangeS
import Derived.Test.YtenepnbickpcjaaPush
namespace Go.Proofs.Ytenepnbickpcjaa
open Go.RowKit

/-- A sheet in new memory, and a yes or no. -/
def SheetR (w : World) (sw sh : Int) (l : List Nat) (ok : Bool) (e : Ending) (w' : World) : Prop :=
  ∃ A c xs, e = .returned (.tuple #[shv sw sh A xs.length c, .bool ok]) ∧ cl xs = l ∧ OwnS w.heap.size w' A (xs.map fv) ∧ Below w.heap.size w w'
theorem sheetR_none {w w' : World} (h : Below w.heap.size w w') : SheetR w 0 0 [] false (.returned (.tuple #[shv 0 0 none 0 0, .bool false])) w' := ⟨none, 0, [], rfl, rfl, OwnS.nil _, h⟩

theorem below_put3 {B g : Nat} {a w : World} {x y z : Value} (h : Below B a w) (hp : B ≤ g) : Below B a (((w.setCell ⟨g, 0, none⟩ x).setCell ⟨g, 1, none⟩ y).setCell ⟨g, 2, none⟩ z) :=
  ((h.setCell hp _).setCell hp _).setCell hp _

set_option maxHeartbeats 1000000 in
theorem l05Give_any (sw sh : Int) (A : Option Addr) (c : Nat) (xs : List Nat) (w : World) (hA : FRd w A xs) (hn : xs.length ≤ maxLen) :
    Calls Try.prog 65 #[shv sw sh A xs.length c] w fun e w' => e = .returned (.tuple #[if shB sw sh xs then shv sw sh A xs.length c else shv 0 0 none 0 0, .bool (shB sw sh xs)]) ∧ Below w.heap.size w w' := by
  have hA0 := Rd.below hA (below_alloc _ (.cells #[.int .i64 sw, .int .i64 sh, .slice A xs.length c] 33))
  have hA1 := Rd.below hA0 (below_alloc _ (.cells #[.int .i64 0, .int .i64 0, .slice none 0 0] 33))
  have hK : Below w.heap.size w ((w.alloc (.cells #[.int .i64 sw, .int .i64 sh, .slice A xs.length c] 33)).alloc (.cells #[.int .i64 0, .int .i64 0, .slice none 0 0] 33)) := Below.step (below_alloc _ _) (below_alloc _ _)
  cases hs : shB sw sh xs
  · go_enter Try.func65, Try.ntmps65
    go_wp2_with fail
    refine (l05Is_any _ sw sh A c xs _ hA1 hn (by simp) (by simp) (by simp)).mono ?_
    rintro e w1 ⟨rfl, n, rfl⟩
    rw [hs]
    go_wp2
    refine bodyPost_ret (v := .tuple #[shv 0 0 none 0 0, .bool false]) (by simp [results, Try.results65, go_sem]) rfl ?_
    refine ⟨rfl, below_put3 (below_drewN hK _) (Nat.le_succ _)⟩
  · go_enter Try.func65, Try.ntmps65
    go_wp2_with fail
    refine (l05Is_any _ sw sh A c xs _ hA1 hn (by simp) (by simp) (by simp)).mono ?_
    rintro e w1 ⟨rfl, n, rfl⟩
    rw [hs]
    go_wp2
    refine bodyPost_ret (v := .tuple #[shv sw sh A xs.length c, .bool true]) (by simp [results, Try.results65, go_sem]) rfl ?_
    refine ⟨rfl, below_put3 (below_drewN hK _) (Nat.le_succ _)⟩
set_option maxHeartbeats 1000000 in
theorem ifSheet_any (sw sh : Int) (A : Option Addr) (c : Nat) (xs : List Nat) (w : World) (hA : FRd w A xs) (hn : xs.length ≤ maxLen) :
    Calls Try.prog 71 #[shv sw sh A xs.length c] w fun e w' => e = .returned (.tuple #[if shB sw sh xs then shv sw sh A xs.length c else shv 0 0 none 0 0, .bool (shB sw sh xs)]) ∧ Below w.heap.size w w' := by
  have hA0 := Rd.below hA (below_alloc _ (.cells #[.int .i64 sw, .int .i64 sh, .slice A xs.length c] 33))
  have hA1 := Rd.below hA0 (below_alloc _ (.cells #[.int .i64 0, .int .i64 0, .slice none 0 0] 33))
  have hK : Below w.heap.size w ((w.alloc (.cells #[.int .i64 sw, .int .i64 sh, .slice A xs.length c] 33)).alloc (.cells #[.int .i64 0, .int .i64 0, .slice none 0 0] 33)) := Below.step (below_alloc _ _) (below_alloc _ _)
  cases hs : shB sw sh xs
  · go_enter Try.func71, Try.ntmps71
    go_wp2_with fail
    refine (implValid_any sw sh A c xs _ hA1 hn).mono ?_
    rintro e w1 ⟨rfl, k1⟩
    rw [hs]
    have c0 : w1.cell? ⟨w.heap.size, 0, none⟩ = some (.int .i64 sw) := (k1.cell (by simp <;> omega)).trans (by simp)
    have c1 : w1.cell? ⟨w.heap.size, 1, none⟩ = some (.int .i64 sh) := (k1.cell (by simp <;> omega)).trans (by simp)
    have c2 : w1.cell? ⟨w.heap.size, 2, none⟩ = some (.slice A xs.length c) := (k1.cell (by simp <;> omega)).trans (by simp)
    have d0 : w1.cell? ⟨w.heap.size + 1, 0, none⟩ = some (.int .i64 0) := (k1.cell (by simp <;> omega)).trans (by simp)
    have d1 : w1.cell? ⟨w.heap.size + 1, 1, none⟩ = some (.int .i64 0) := (k1.cell (by simp <;> omega)).trans (by simp)
    have d2 : w1.cell? ⟨w.heap.size + 1, 2, none⟩ = some (.slice none 0 0) := (k1.cell (by simp <;> omega)).trans (by simp)
    have e0 : w.heap.size + 1 < w1.heap.size := by have := k1.size; simp at this; omega
    have e1 : w.heap.size < w1.heap.size := by omega
    obtain ⟨_, hf⟩ := cells_below k1
    have f0 : w1.frozen? ⟨w.heap.size + 1, 0, none⟩ = false := (hf _ _ (by simp <;> omega)).trans (by simp)
    have f1 : w1.frozen? ⟨w.heap.size + 1, 1, none⟩ = false := (hf _ _ (by simp <;> omega)).trans (by simp)
    have f2 : w1.frozen? ⟨w.heap.size + 1, 2, none⟩ = false := (hf _ _ (by simp <;> omega)).trans (by simp)
    clear hf
    go_wp2
    refine bodyPost_ret (v := .tuple #[shv 0 0 none 0 0, .bool false]) (by simp [results, Try.results71, go_sem, d0, d1, d2]) rfl ?_
    refine ⟨rfl, below_put3 (Below.step hK k1) (Nat.le_succ _)⟩
  · go_enter Try.func71, Try.ntmps71
    go_wp2_with fail
    refine (implValid_any sw sh A c xs _ hA1 hn).mono ?_
    rintro e w1 ⟨rfl, k1⟩
    rw [hs]
    have c0 : w1.cell? ⟨w.heap.size, 0, none⟩ = some (.int .i64 sw) := (k1.cell (by simp <;> omega)).trans (by simp)
    have c1 : w1.cell? ⟨w.heap.size, 1, none⟩ = some (.int .i64 sh) := (k1.cell (by simp <;> omega)).trans (by simp)
    have c2 : w1.cell? ⟨w.heap.size, 2, none⟩ = some (.slice A xs.length c) := (k1.cell (by simp <;> omega)).trans (by simp)
    have d0 : w1.cell? ⟨w.heap.size + 1, 0, none⟩ = some (.int .i64 0) := (k1.cell (by simp <;> omega)).trans (by simp)
    have d1 : w1.cell? ⟨w.heap.size + 1, 1, none⟩ = some (.int .i64 0) := (k1.cell (by simp <;> omega)).trans (by simp)
    have d2 : w1.cell? ⟨w.heap.size + 1, 2, none⟩ = some (.slice none 0 0) := (k1.cell (by simp <;> omega)).trans (by simp)
    have e0 : w.heap.size + 1 < w1.heap.size := by have := k1.size; simp at this; omega
    have e1 : w.heap.size < w1.heap.size := by omega
    obtain ⟨_, hf⟩ := cells_below k1
    have f0 : w1.frozen? ⟨w.heap.size + 1, 0, none⟩ = false := (hf _ _ (by simp <;> omega)).trans (by simp)
    have f1 : w1.frozen? ⟨w.heap.size + 1, 1, none⟩ = false := (hf _ _ (by simp <;> omega)).trans (by simp)
    have f2 : w1.frozen? ⟨w.heap.size + 1, 2, none⟩ = false := (hf _ _ (by simp <;> omega)).trans (by simp)
    clear hf
    go_wp2
    refine bodyPost_ret (v := .tuple #[shv sw sh A xs.length c, .bool true]) (by simp [results, Try.results71, go_sem, d0, d1, d2]) rfl ?_
    refine ⟨rfl, below_put3 (Below.step hK k1) (Nat.le_succ _)⟩
end Go.Proofs.Ytenepnbickpcjaa
