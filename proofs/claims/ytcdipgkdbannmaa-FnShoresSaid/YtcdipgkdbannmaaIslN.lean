/- IslandsOver, the reference's side where the sheet or the level is not valid. -/
import Derived.Test.YtcdipgkdbannmaaIslS
namespace Go.Proofs.Ytcdipgkdbannmaa
open Go.RowKit

set_option maxRecDepth 100000 in
set_option maxHeartbeats 1000000 in
theorem specIs_no (sw sh : Int) (A : Option Addr) (c : Nat) (xs : List Nat) (lev : Nat) (w : World) (hA : FRd w A xs) (hn : xs.length ≤ maxLen) (ho : ctOk sw sh xs lev = false) :
    Calls Try.prog 23 #[shv sw sh A xs.length c, .float .f32 lev] w (NoneR w) := by
  obtain ⟨w0, hw0⟩ : ∃ w0, w0 = w.alloc (.cells #[.int .i64 sw, .int .i64 sh, .slice A xs.length c] 29) := ⟨_, rfl⟩
  have k0 : Below w.heap.size w w0 := by rw [hw0]; exact below_alloc _ _
  have sb : BoxS w0 w.heap.size sw sh A xs.length c := by rw [hw0]; exact boxS_new _ _ _ _ _ _ _ _ rfl
  have hA1 := Rd.below hA k0
  cases hs : shB sw sh xs
  · clear ho
    go_enter Try.func23, Try.ntmps23
    go_wp2_with fail
    rw [← hw0]
    clear hw0
    refine (l05Is_any _ sw sh A c xs _ hA1 hn sb.c0 sb.c1 sb.c2).mono ?_
    rintro e w1 ⟨rfl, n1, rfl⟩
    rw [hs]
    go_wp2
    exact bodyPost_ret (v := .tuple #[.int .i64 0, .int .i64 0, .bool false]) (by simp [results, Try.results23, go_sem]) rfl ⟨rfl, below_drewN k0 _⟩
  · have hl : finB (cn .f32 lev) = false := by unfold ctOk at ho; rw [hs, Bool.true_and] at ho; exact ho
    clear ho
    go_enter Try.func23, Try.ntmps23
    go_wp2_with fail
    rw [← hw0]
    clear hw0
    refine (l05Is_any _ sw sh A c xs _ hA1 hn sb.c0 sb.c1 sb.c2).mono ?_
    rintro e w1 ⟨rfl, n1, rfl⟩
    rw [hs]
    go_wp2_with fail
    refine (l01Finite_any _ _).mono ?_
    rintro e w2 ⟨rfl, n2, rfl⟩
    rw [hl]
    go_wp2
    exact bodyPost_ret (v := .tuple #[.int .i64 0, .int .i64 0, .bool false]) (by simp [results, Try.results23, go_sem]) rfl ⟨rfl, below_drewN k0 _⟩
end Go.Proofs.Ytcdipgkdbannmaa
