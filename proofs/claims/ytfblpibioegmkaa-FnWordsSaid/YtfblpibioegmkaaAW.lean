/- areWithin on a vector. -/
import Derived.Test.YtfblpibioegmkaaL2
import Derived.Test.YtfblpibioegmkaaG7
namespace Go.Proofs.Ytfblpibioegmkaa
open Go.RowKit

def inB (lo hi x : Int) : Bool := decide (lo ≤ x) && decide (x ≤ hi)
theorem wclos_any (x lo hi : Int) (p q : Nat) (w : World) (h : w.cell? ⟨p, 0, none⟩ = some (.int .i64 lo)) (h2 : w.cell? ⟨q, 0, none⟩ = some (.int .i64 hi)) :
    Calls Try.prog 92 #[.int .i64 x, .pointer (some ⟨p, 0, none⟩), .pointer (some ⟨q, 0, none⟩)] w fun e w' => e = .returned (.bool (!inB lo hi x)) ∧ Below w.heap.size w w' := by
  have hp := World.block_lt_of_cell? _ _ h
  have hq := World.block_lt_of_cell? _ _ h2
  go_enter Try.func92, Try.ntmps92
  go_wp2_with (go_at_call 67; refine (within_any _ _ _ _).mono ?_; rintro e w2 ⟨rfl, rfl⟩)
  go_ret
  refine ⟨ret_bool ?_, by go_grown⟩
  unfold inB
  rw [Bool.not_and]
theorem enter_wclos : ∀ args w, (callFunc 92 args).run Try.prog w = .ok (.enter 92 args) w := fun args w => by
  simp only [callFunc]
  have h1 : ¬ (Try.f92.name = "runtime.NumGoroutine") := by decide +kernel
  have h2 : Try.f92.body.isSome = true := by kernel_rfl
  have h3 : ¬ (Try.f92.body = none) := fun h => by rw [h] at h2; cases h2
  simp [h1, h3]
def allIn (lo hi : Int) (f : Nat → Int) (n : Nat) : Bool := (List.range n).all fun j => inB lo hi (f j)
theorem allIn_succ (lo hi : Int) (f : Nat → Int) (n : Nat) : allIn lo hi f (n + 1) = (allIn lo hi f n && inB lo hi (f n)) := by
  unfold allIn; rw [List.range_succ, List.all_append]; simp
theorem allIn_bad {lo hi : Int} {f : Nat → Int} {k n : Nat} (hk : k < n) (h : inB lo hi (f k) = false) : allIn lo hi f n = false := by
  unfold allIn
  rw [List.all_eq_false]
  exact ⟨k, List.mem_range.2 hk, by simp [h]⟩
theorem allIn_ok {f : Nat → Int} (h : ∀ j, 0 ≤ f j) : allIn 0 1000000000000 f 27 = okS f := by
  unfold allIn okS inB
  congr 1
  funext j
  rw [decide_eq_true (h j), Bool.true_and]
set_option maxRecDepth 100000 in
set_option maxHeartbeats 1000000 in
theorem wfind_any (lo hi : Int) (p q g : Nat) (f : Nat → Int) (w : World) (h : w.cell? ⟨p, 0, none⟩ = some (.int .i64 lo)) (h2 : w.cell? ⟨q, 0, none⟩ = some (.int .i64 hi)) (hV : Vec w g f) :
    Calls Try.prog 100 #[.slice (some ⟨g, 0, none⟩) 27 27, .func (.func 92) #[] #[.pointer (some ⟨p, 0, none⟩), .pointer (some ⟨q, 0, none⟩)]] w fun e w' => ∃ i : Int, e = .returned (.int .i64 i) ∧ decide (0 ≤ i) = !allIn lo hi f 27 ∧ Below w.heap.size w w' := by
  have hp := World.block_lt_of_cell? _ _ h
  have hq := World.block_lt_of_cell? _ _ h2
  have ec := enter_wclos
  go_enter Try.func100, Try.ntmps100
  go_wp2_with fail
  go_loopw [8] (fun iv wr => ∃ k : Nat, k ≤ 27 ∧ iv = .int .i64 k ∧ Hid (allIn lo hi f k = true) ∧ Vec wr g f ∧ Below w.heap.size w wr) (fun iv _ => 27 - (intOf iv).toNat)
  case atStart => exact ⟨0, Nat.zero_le _, rfl, Lib.hid rfl, hV, Below.refl _ _⟩
  case round =>
    clear hV
    obtain ⟨k, hk, rfl, HN, hV, hbel⟩ := hrel
    by_cases hlt : k < 27
    · have hki : (k : Int) < 27 := by omega
      have c0 := hV.c k hlt
      have g0 := (hbel.cell (p := ⟨p, 0, none⟩) hp).trans h
      have g1 := (hbel.cell (p := ⟨q, 0, none⟩) hq).trans h2
      cases hB : inB lo hi (f k)
      · have HB := Lib.hid (allIn_bad hlt hB)
        have hc := wclos_any (f k) lo hi p q wr g0 g1
        rw [hB] at hc
        generalize f k = x at c0 hc
        clear hB
        go_wp2_with fail
        refine hc.mono ?_
        rintro e w2 ⟨rfl, k2⟩
        clear hc
        go_wp2
        go_ret
        exact ⟨k, rfl, by rw [HB.out]; simp, Below.step hbel k2⟩
      · have HB : Hid (allIn lo hi f (k + 1) = true) := Lib.hid (by rw [allIn_succ, HN.out, hB]; rfl)
        have hc := wclos_any (f k) lo hi p q wr g0 g1
        rw [hB] at hc
        generalize f k = x at c0 hc
        clear hB
        go_wp2_with fail
        refine hc.mono ?_
        rintro e w2 ⟨rfl, k2⟩
        clear hc
        have hV2 := hV.below k2
        go_wp2
        go_roundw
        case rel => exact ⟨k + 1, by omega, by go_num, HB, hV2, Below.step hbel k2⟩
        case measure => simp [intOf]; omega
    · obtain rfl : k = 27 := by omega
      go_wp2
      go_ret
      exact ⟨-1, rfl, by rw [HN.out]; rfl, hbel⟩
theorem wcont_any (lo hi : Int) (p q g : Nat) (f : Nat → Int) (w : World) (h : w.cell? ⟨p, 0, none⟩ = some (.int .i64 lo)) (h2 : w.cell? ⟨q, 0, none⟩ = some (.int .i64 hi)) (hV : Vec w g f) :
    Calls Try.prog 91 #[.slice (some ⟨g, 0, none⟩) 27 27, .func (.func 92) #[] #[.pointer (some ⟨p, 0, none⟩), .pointer (some ⟨q, 0, none⟩)]] w fun e w' => e = .returned (.bool (!allIn lo hi f 27)) ∧ Below w.heap.size w w' := by
  go_enter Try.func91, Try.ntmps91
  go_wp2_with fail
  refine (wfind_any lo hi p q g f _ h h2 hV).mono ?_
  rintro e w2 ⟨i, rfl, hi2, k2⟩
  go_wp2
  go_ret
  exact ⟨rfl, k2⟩
theorem areWithin_any (lo hi : Int) (g : Nat) (f : Nat → Int) (w : World) (hV : Vec w g f) :
    Calls Try.prog 70 #[.slice (some ⟨g, 0, none⟩) 27 27, .int .i64 lo, .int .i64 hi] w fun e w' => e = .returned (.bool (allIn lo hi f 27)) ∧ Below w.heap.size w w' := by
  go_enter Try.func70, Try.ntmps70
  go_wp2_with fail
  obtain ⟨wa, hwa⟩ : ∃ wa, wa = w.alloc (.cells #[.int .i64 lo] 2) := ⟨_, rfl⟩
  obtain ⟨wb, hwb⟩ : ∃ wb, wb = wa.alloc (.cells #[.int .i64 hi] 2) := ⟨_, rfl⟩
  have a0 : wb.cell? ⟨w.heap.size, 0, none⟩ = some (.int .i64 lo) := by rw [hwb, hwa]; exact (Below.cell (below_alloc _ _) (by simp)).trans (by simp)
  have a1 : wb.cell? ⟨w.heap.size + 1, 0, none⟩ = some (.int .i64 hi) := by rw [hwb]; have : wa.heap.size = w.heap.size + 1 := by rw [hwa]; simp
                                                                            rw [← this]; simp
  have k1 : Below w.heap.size w wb := by rw [hwb, hwa]; exact Below.step (below_alloc _ _) (below_alloc _ _)
  rw [← hwa, ← hwb]
  clear hwa hwb
  refine (wcont_any lo hi _ _ g f _ a0 a1 (hV.below k1)).mono ?_
  rintro e w2 ⟨rfl, k2⟩
  go_wp2
  go_ret
  exact ⟨rfl, Below.step k1 k2⟩
end Go.Proofs.Ytfblpibioegmkaa
