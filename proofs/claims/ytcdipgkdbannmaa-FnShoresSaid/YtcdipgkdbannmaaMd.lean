/- Several texts in one: Each, Each2. -/
import Derived.Test.YtcdipgkdbannmaaValid
import Derived.Deep.LoopGhost
/- eachPair by a closure's contract: the pairs of places that are a lag apart, in rows and then in columns. -/
namespace Go.Proofs.Ytcdipgkdbannmaa
open Go.RowKit

/-- The pairs in rows whose first place is before n. -/
def visR (W lag : Nat) (n : Nat) : List (Nat × Nat) := (List.range n).filterMap fun i => if i % W + lag < W then some (i, i + lag) else none
/-- The pairs in columns whose first place is before n. -/
def visC (W H lag : Nat) (n : Nat) : List (Nat × Nat) := (List.range n).filterMap fun i => if i / W + lag < H then some (i, i + lag * W) else none
theorem visR_yes {W lag n : Nat} (h : n % W + lag < W) : visR W lag (n + 1) = visR W lag n ++ [(n, n + lag)] := by
  unfold visR; rw [List.range_succ, List.filterMap_append]; simp [h]
theorem visR_no {W lag n : Nat} (h : ¬ n % W + lag < W) : visR W lag (n + 1) = visR W lag n := by
  unfold visR; rw [List.range_succ, List.filterMap_append]; simp [h]
theorem visC_yes {W H lag n : Nat} (h : n / W + lag < H) : visC W H lag (n + 1) = visC W H lag n ++ [(n, n + lag * W)] := by
  unfold visC; rw [List.range_succ, List.filterMap_append]; simp [h]
theorem visC_no {W H lag n : Nat} (h : ¬ n / W + lag < H) : visC W H lag (n + 1) = visC W H lag n := by
  unfold visC; rw [List.range_succ, List.filterMap_append]; simp [h]
/-- The rest of a row gives no pair. -/
theorem visR_row {W lag y x : Nat} (hx : W ≤ x + lag) : ∀ t, x + t ≤ W → visR W lag (y * W + x + t) = visR W lag (y * W + x)
  | 0, _ => rfl
  | t + 1, ht => by
    have hm : (y * W + x + t) % W = x + t := by rw [Nat.add_assoc, Nat.mul_comm, Nat.mul_add_mod, Nat.mod_eq_of_lt (by omega)]
    rw [show y * W + x + (t + 1) = y * W + x + t + 1 by omega, visR_no (by rw [hm]; omega), visR_row hx t (by omega)]
theorem visC_rest {W H lag y : Nat} (hW : 0 < W) (hy : H ≤ y + lag) : ∀ t, visC W H lag (y * W + t) = visC W H lag (y * W)
  | 0 => rfl
  | t + 1 => by
    have hd : y ≤ (y * W + t) / W := (Nat.le_div_iff_mul_le hW).2 (by omega)
    rw [show y * W + (t + 1) = y * W + t + 1 by omega, visC_no (by omega), visC_rest hW hy t]
theorem row_mod {W y x : Nat} (hx : x < W) : (y * W + x) % W = x ∧ (y * W + x) / W = y := by
  have hW : 0 < W := by omega
  constructor
  · rw [Nat.mul_comm, Nat.mul_add_mod, Nat.mod_eq_of_lt hx]
  · rw [Nat.mul_comm, Nat.mul_add_div hW, Nat.div_eq_of_lt hx, Nat.add_zero]

set_option maxRecDepth 100000 in
set_option maxHeartbeats 1000000 in
theorem eachPair_inv (W H lag : Nat) (A : Option Addr) (n c : Nat) (K : FuncId) (cap : Array Value) (w : World) (hW : 1 ≤ W ∧ W ≤ 17) (hH : 1 ≤ H ∧ H ≤ 17) (hl : 1 ≤ lag ∧ lag ≤ 17)
    (S : Nat → Prop) (hS : ∀ k, S k → k < w.heap.size)
    (Inv : List (Nat × Nat) → List (Nat × Nat) → World → Prop) (hKeep : ∀ a b w1 w2, Inv a b w1 → Below w1.heap.size w1 w2 → Inv a b w2)
    (hR : ∀ a i k wr, Inv a [] wr → i < W * H → k < W * H → Calls Try.prog K (#[.int .i64 (i : Nat), .int .i64 (k : Nat), .bool false] ++ cap) wr fun e w' => e = .returned (.tuple #[]) ∧ Inv (a ++ [(i, k)]) [] w' ∧ Keep S wr w')
    (hC : ∀ a b i k wr, Inv a b wr → i < W * H → k < W * H → Calls Try.prog K (#[.int .i64 (i : Nat), .int .i64 (k : Nat), .bool true] ++ cap) wr fun e w' => e = .returned (.tuple #[]) ∧ Inv a (b ++ [(i, k)]) w' ∧ Keep S wr w')
    (hen : ∀ args w, (callFunc K args).run Try.prog w = .ok (.enter K args) w) (h0 : Inv [] [] w) :
    Calls Try.prog 38 #[shv W H A n c, .int .i64 lag, .func (.func K) #[] cap] w fun e w' => e = .returned (.tuple #[]) ∧ Inv (visR W lag (H * W)) (visC W H lag (H * W)) w' ∧ Keep S w w' := by
  go_enter Try.func38, Try.ntmps38
  go_wp2_with fail
  have hk0 : Keep S w (w.alloc (.cells #[.int .i64 W, .int .i64 H, .slice A n c] 29)) := Keep.of_below (below_alloc _ _)
  have bz : w.heap.size < (w.alloc (.cells #[.int .i64 W, .int .i64 H, .slice A n c] 29)).heap.size := by rw [World.size_alloc]; omega
  have bS : ¬ S w.heap.size := fun h => by have := hS _ h; omega
  have bc0 : (w.alloc (.cells #[.int .i64 W, .int .i64 H, .slice A n c] 29)).cell? ⟨w.heap.size, 0, none⟩ = some (.int .i64 W) := by simp
  have bc1 : (w.alloc (.cells #[.int .i64 W, .int .i64 H, .slice A n c] 29)).cell? ⟨w.heap.size, 1, none⟩ = some (.int .i64 H) := by simp
  have hI0 := hKeep _ _ _ _ h0 (below_alloc w (.cells #[.int .i64 W, .int .i64 H, .slice A n c] 29))
  obtain ⟨w0, hw0⟩ : ∃ w0, w0 = w.alloc (.cells #[.int .i64 W, .int .i64 H, .slice A n c] 29) := ⟨_, rfl⟩
  rw [← hw0] at hk0 bz bc0 bc1 hI0 ⊢
  clear hw0
  have cell0 : ∀ wr, Keep S w0 wr → wr.cell? ⟨w.heap.size, 0, none⟩ = some (.int .i64 W) ∧ wr.cell? ⟨w.heap.size, 1, none⟩ = some (.int .i64 H) := fun wr k => ⟨(k.cell (p := ⟨w.heap.size, 0, none⟩) bz bS).trans bc0, (k.cell (p := ⟨w.heap.size, 1, none⟩) bz bS).trans bc1⟩
  have CELL := Lib.hid cell0
  clear cell0 bc0 bc1
  go_loopw [12] (fun i wr => ∃ y : Nat, y ≤ H ∧ i = .int .i64 y ∧ Inv (visR W lag (y * W)) [] wr ∧ Keep S w0 wr) (fun i _ => H - (intOf i).toNat)
  case atStart => exact ⟨0, Nat.zero_le _, rfl, by rw [Nat.zero_mul]; exact hI0, Keep.refl _ _⟩
  case round =>
    obtain ⟨y, hy, rfl, hI, hk⟩ := hrel
    by_cases hlt : y < H
    · obtain ⟨wo, hwo⟩ : ∃ wo, wo = wr := ⟨_, rfl⟩
      subst hwo
      go_wp2_with fail
      go_loopw [7] (fun i wr => ∃ x : Nat, x ≤ W ∧ i = .int .i64 x ∧ Inv (visR W lag (y * W + x)) [] wr ∧ Keep S w0 wr) (fun i _ => W - (intOf i).toNat)
      case atStart => exact ⟨0, Nat.zero_le _, rfl, hI, hk⟩
      case round =>
        obtain ⟨x, hx, rfl, hI2, hk2⟩ := hrel
        obtain ⟨c0, c1⟩ := CELL.out _ hk2
        have hm1 : 0 ≤ (y : Int) * (W : Int) := Int.mul_nonneg (by omega) (by omega)
        have hm2 : (y : Int) * (W : Int) ≤ 17 * 17 := Int.mul_le_mul (by omega) (by omega) (by omega) (by omega)
        by_cases hxl : x + lag < W
        · have hxi : (x : Int) + (lag : Int) < (W : Int) := by omega
          have hle : y * W + W ≤ W * H := by
            have : (y + 1) * W ≤ H * W := Nat.mul_le_mul_right _ hlt
            rw [Nat.add_mul, Nat.mul_comm H] at this
            omega
          have hcall := hR (visR W lag (y * W + x)) (y * W + x) (y * W + x + lag) wr hI2 (by omega) (by omega)
          have hv : Hid (visR W lag (y * W + x + 1) = visR W lag (y * W + x) ++ [(y * W + x, y * W + x + lag)]) := Lib.hid (visR_yes (by rw [(row_mod (show x < W by omega)).1]; exact hxl))
          push_cast at hcall
          go_wp2_with fail
          refine hcall.mono ?_
          rintro e w2 ⟨rfl, hI3, hk3⟩
          clear hcall
          go_wp2
          go_roundw
          case rel => exact ⟨x + 1, by omega, by go_num, by rw [show y * W + (x + 1) = y * W + x + 1 by omega, hv.out]; exact hI3, hk2.trans hk3⟩
          case measure => simp [intOf]; omega
        · have hxi : ¬ (x : Int) + (lag : Int) < (W : Int) := by omega
          have hrow := visR_row (W := W) (lag := lag) (y := y) (x := x) (by omega) (W - x) (by omega)
          go_wp2
          go_roundw
          case rel => exact ⟨y + 1, by omega, by go_num, by rw [show (y + 1) * W = y * W + x + (W - x) by rw [Nat.add_mul]; omega, hrow]; exact hI2, hk2⟩
          case measure => simp [intOf]; omega
    · have hyH : y = H := by omega
      have hIH : Inv (visR W lag (H * W)) [] wr := by rw [← hyH]; exact hI
      clear hI hyH
      go_wp2_with fail
      go_loopw [8] (fun i wr => ∃ y : Nat, y ≤ H ∧ i = .int .i64 y ∧ Inv (visR W lag (H * W)) (visC W H lag (y * W)) wr ∧ Keep S w0 wr) (fun i _ => H - (intOf i).toNat)
      case atStart => exact ⟨0, Nat.zero_le _, rfl, by rw [Nat.zero_mul]; exact hIH, hk⟩
      case round =>
        clear hIH hk
        obtain ⟨y, hy, rfl, hI, hk⟩ := hrel
        obtain ⟨c0, c1⟩ := CELL.out _ hk
        by_cases hyl : y + lag < H
        · have hyi : (y : Int) + (lag : Int) < (H : Int) := by omega
          obtain ⟨wo, hwo⟩ : ∃ wo, wo = wr := ⟨_, rfl⟩
          subst hwo
          go_wp2_with fail
          go_loopw [50] (fun i wr => ∃ x : Nat, x ≤ W ∧ i = .int .i64 x ∧ Inv (visR W lag (H * W)) (visC W H lag (y * W + x)) wr ∧ Keep S w0 wr) (fun i _ => W - (intOf i).toNat)
          case atStart => exact ⟨0, Nat.zero_le _, rfl, hI, hk⟩
          case round =>
            clear c0 c1
            obtain ⟨x, hx, rfl, hI2, hk2⟩ := hrel
            obtain ⟨c0, c1⟩ := CELL.out _ hk2
            by_cases hxl : x < W
            · have hm1 : 0 ≤ (y : Int) * (W : Int) := Int.mul_nonneg (by omega) (by omega)
              have hm2 : (y : Int) * (W : Int) ≤ 17 * 17 := Int.mul_le_mul (by omega) (by omega) (by omega) (by omega)
              have hm3 : 0 ≤ ((y : Int) + (lag : Int)) * (W : Int) := Int.mul_nonneg (by omega) (by omega)
              have hm4 : ((y : Int) + (lag : Int)) * (W : Int) ≤ 17 * 17 := Int.mul_le_mul (by omega) (by omega) (by omega) (by omega)
              have hle : (y + lag) * W + W ≤ W * H := by
                have : (y + lag + 1) * W ≤ H * W := Nat.mul_le_mul_right _ hyl
                rw [Nat.add_mul (y + lag), Nat.mul_comm H] at this
                omega
              have hle2 : y * W ≤ (y + lag) * W := Nat.mul_le_mul_right _ (by omega)
              have hcall := hC (visR W lag (H * W)) (visC W H lag (y * W + x)) (y * W + x) ((y + lag) * W + x) wr hI2 (by omega) (by omega)
              have hv : Hid (visC W H lag (y * W + x + 1) = visC W H lag (y * W + x) ++ [(y * W + x, (y + lag) * W + x)]) := Lib.hid (by
                rw [visC_yes (by rw [(row_mod hxl).2]; exact hyl)]
                rw [show y * W + x + lag * W = (y + lag) * W + x by rw [Nat.add_mul]; omega])
              push_cast at hcall
              go_wp2_with fail
              refine hcall.mono ?_
              rintro e w2 ⟨rfl, hI3, hk3⟩
              clear hcall
              go_wp2
              go_roundw
              case rel => exact ⟨x + 1, by omega, by go_num, by rw [show y * W + (x + 1) = y * W + x + 1 by omega, hv.out]; exact hI3, hk2.trans hk3⟩
              case measure => simp [intOf]; omega
            · go_wp2
              go_roundw
              case rel => exact ⟨y + 1, by omega, by go_num, by rw [show (y + 1) * W = y * W + x by rw [Nat.add_mul]; omega]; exact hI2, hk2⟩
              case measure => simp [intOf]; omega
        · have hyi : ¬ (y : Int) + (lag : Int) < (H : Int) := by omega
          have hrest := visC_rest (W := W) (H := H) (lag := lag) (y := y) (by omega) (by omega) (H * W - y * W)
          have hle : y * W ≤ H * W := Nat.mul_le_mul_right _ hy
          go_wp2
          go_end0
          refine ⟨rfl, ?_, hk0.trans hk⟩
          rw [show H * W = y * W + (H * W - y * W) by omega, hrest, show y * W + (H * W - y * W) = H * W by omega]
          exact hI
end Go.Proofs.Ytcdipgkdbannmaa

/- eachPair by a closure's contract; the closure may write whatever is not eachPair's own box. -/
namespace Go.Proofs.Ytcdipgkdbannmaa
open Go.RowKit

theorem vlenR {W lag : Nat} : ∀ n, (visR W lag n).length ≤ n := fun n => by
  have := List.length_filterMap_le (fun i => if i % W + lag < W then some (i, i + lag) else none) (List.range n)
  simpa [visR] using this
theorem vlenC {W H lag : Nat} : ∀ n, (visC W H lag n).length ≤ n := fun n => by
  have := List.length_filterMap_le (fun i => if i / W + lag < H then some (i, i + lag * W) else none) (List.range n)
  simpa [visC] using this
set_option maxRecDepth 100000 in
set_option maxHeartbeats 1000000 in
theorem eachPair_inv2 (W H lag : Nat) (A : Option Addr) (n c : Nat) (K : FuncId) (cap : Array Value) (w : World) (hW : 1 ≤ W ∧ W ≤ 17) (hH : 1 ≤ H ∧ H ≤ 17) (hl : 1 ≤ lag ∧ lag ≤ 17)
    (S : Nat → Prop) (hS : ¬ S w.heap.size)
    (Inv : List (Nat × Nat) → List (Nat × Nat) → World → Prop) (hKeep : ∀ a b w1 w2, Inv a b w1 → Below w1.heap.size w1 w2 → Inv a b w2)
    (hR : ∀ a i k wr, Inv a [] wr → a.length ≤ W * H → i < W * H → k < W * H → Calls Try.prog K (#[.int .i64 (i : Nat), .int .i64 (k : Nat), .bool false] ++ cap) wr fun e w' => e = .returned (.tuple #[]) ∧ Inv (a ++ [(i, k)]) [] w' ∧ Keep S wr w')
    (hC : ∀ a b i k wr, Inv a b wr → a.length ≤ W * H → b.length ≤ W * H → i < W * H → k < W * H → Calls Try.prog K (#[.int .i64 (i : Nat), .int .i64 (k : Nat), .bool true] ++ cap) wr fun e w' => e = .returned (.tuple #[]) ∧ Inv a (b ++ [(i, k)]) w' ∧ Keep S wr w')
    (hen : ∀ args w, (callFunc K args).run Try.prog w = .ok (.enter K args) w) (h0 : Inv [] [] w) :
    Calls Try.prog 38 #[shv W H A n c, .int .i64 lag, .func (.func K) #[] cap] w fun e w' => e = .returned (.tuple #[]) ∧ Inv (visR W lag (H * W)) (visC W H lag (H * W)) w' ∧ Keep S w w' := by
  go_enter Try.func38, Try.ntmps38
  go_wp2_with fail
  have hk0 : Keep S w (w.alloc (.cells #[.int .i64 W, .int .i64 H, .slice A n c] 29)) := Keep.of_below (below_alloc _ _)
  have bz : w.heap.size < (w.alloc (.cells #[.int .i64 W, .int .i64 H, .slice A n c] 29)).heap.size := by rw [World.size_alloc]; omega
  have bS := hS
  have bc0 : (w.alloc (.cells #[.int .i64 W, .int .i64 H, .slice A n c] 29)).cell? ⟨w.heap.size, 0, none⟩ = some (.int .i64 W) := by simp
  have bc1 : (w.alloc (.cells #[.int .i64 W, .int .i64 H, .slice A n c] 29)).cell? ⟨w.heap.size, 1, none⟩ = some (.int .i64 H) := by simp
  have hI0 := hKeep _ _ _ _ h0 (below_alloc w (.cells #[.int .i64 W, .int .i64 H, .slice A n c] 29))
  obtain ⟨w0, hw0⟩ : ∃ w0, w0 = w.alloc (.cells #[.int .i64 W, .int .i64 H, .slice A n c] 29) := ⟨_, rfl⟩
  rw [← hw0] at hk0 bz bc0 bc1 hI0 ⊢
  clear hw0
  have cell0 : ∀ wr, Keep S w0 wr → wr.cell? ⟨w.heap.size, 0, none⟩ = some (.int .i64 W) ∧ wr.cell? ⟨w.heap.size, 1, none⟩ = some (.int .i64 H) := fun wr k => ⟨(k.cell (p := ⟨w.heap.size, 0, none⟩) bz bS).trans bc0, (k.cell (p := ⟨w.heap.size, 1, none⟩) bz bS).trans bc1⟩
  have CELL := Lib.hid cell0
  clear cell0 bc0 bc1
  go_loopw [12] (fun i wr => ∃ y : Nat, y ≤ H ∧ i = .int .i64 y ∧ Inv (visR W lag (y * W)) [] wr ∧ Keep S w0 wr) (fun i _ => H - (intOf i).toNat)
  case atStart => exact ⟨0, Nat.zero_le _, rfl, by rw [Nat.zero_mul]; exact hI0, Keep.refl _ _⟩
  case round =>
    obtain ⟨y, hy, rfl, hI, hk⟩ := hrel
    by_cases hlt : y < H
    · obtain ⟨wo, hwo⟩ : ∃ wo, wo = wr := ⟨_, rfl⟩
      subst hwo
      go_wp2_with fail
      go_loopw [7] (fun i wr => ∃ x : Nat, x ≤ W ∧ i = .int .i64 x ∧ Inv (visR W lag (y * W + x)) [] wr ∧ Keep S w0 wr) (fun i _ => W - (intOf i).toNat)
      case atStart => exact ⟨0, Nat.zero_le _, rfl, hI, hk⟩
      case round =>
        obtain ⟨x, hx, rfl, hI2, hk2⟩ := hrel
        obtain ⟨c0, c1⟩ := CELL.out _ hk2
        have hm1 : 0 ≤ (y : Int) * (W : Int) := Int.mul_nonneg (by omega) (by omega)
        have hm2 : (y : Int) * (W : Int) ≤ 17 * 17 := Int.mul_le_mul (by omega) (by omega) (by omega) (by omega)
        by_cases hxl : x + lag < W
        · have hxi : (x : Int) + (lag : Int) < (W : Int) := by omega
          have hle : y * W + W ≤ W * H := by
            have : (y + 1) * W ≤ H * W := Nat.mul_le_mul_right _ hlt
            rw [Nat.add_mul, Nat.mul_comm H] at this
            omega
          have hcall := hR (visR W lag (y * W + x)) (y * W + x) (y * W + x + lag) wr hI2 (by have := vlenR (W := W) (lag := lag) (y * W + x); omega) (by omega) (by omega)
          have hv : Hid (visR W lag (y * W + x + 1) = visR W lag (y * W + x) ++ [(y * W + x, y * W + x + lag)]) := Lib.hid (visR_yes (by rw [(row_mod (show x < W by omega)).1]; exact hxl))
          push_cast at hcall
          go_wp2_with fail
          refine hcall.mono ?_
          rintro e w2 ⟨rfl, hI3, hk3⟩
          clear hcall
          go_wp2
          go_roundw
          case rel => exact ⟨x + 1, by omega, by go_num, by rw [show y * W + (x + 1) = y * W + x + 1 by omega, hv.out]; exact hI3, hk2.trans hk3⟩
          case measure => simp [intOf]; omega
        · have hxi : ¬ (x : Int) + (lag : Int) < (W : Int) := by omega
          have hrow := visR_row (W := W) (lag := lag) (y := y) (x := x) (by omega) (W - x) (by omega)
          go_wp2
          go_roundw
          case rel => exact ⟨y + 1, by omega, by go_num, by rw [show (y + 1) * W = y * W + x + (W - x) by rw [Nat.add_mul]; omega, hrow]; exact hI2, hk2⟩
          case measure => simp [intOf]; omega
    · have hyH : y = H := by omega
      have hIH : Inv (visR W lag (H * W)) [] wr := by rw [← hyH]; exact hI
      clear hI hyH
      go_wp2_with fail
      go_loopw [8] (fun i wr => ∃ y : Nat, y ≤ H ∧ i = .int .i64 y ∧ Inv (visR W lag (H * W)) (visC W H lag (y * W)) wr ∧ Keep S w0 wr) (fun i _ => H - (intOf i).toNat)
      case atStart => exact ⟨0, Nat.zero_le _, rfl, by rw [Nat.zero_mul]; exact hIH, hk⟩
      case round =>
        clear hIH hk
        obtain ⟨y, hy, rfl, hI, hk⟩ := hrel
        obtain ⟨c0, c1⟩ := CELL.out _ hk
        by_cases hyl : y + lag < H
        · have hyi : (y : Int) + (lag : Int) < (H : Int) := by omega
          obtain ⟨wo, hwo⟩ : ∃ wo, wo = wr := ⟨_, rfl⟩
          subst hwo
          go_wp2_with fail
          go_loopw [50] (fun i wr => ∃ x : Nat, x ≤ W ∧ i = .int .i64 x ∧ Inv (visR W lag (H * W)) (visC W H lag (y * W + x)) wr ∧ Keep S w0 wr) (fun i _ => W - (intOf i).toNat)
          case atStart => exact ⟨0, Nat.zero_le _, rfl, hI, hk⟩
          case round =>
            clear c0 c1
            obtain ⟨x, hx, rfl, hI2, hk2⟩ := hrel
            obtain ⟨c0, c1⟩ := CELL.out _ hk2
            by_cases hxl : x < W
            · have hm1 : 0 ≤ (y : Int) * (W : Int) := Int.mul_nonneg (by omega) (by omega)
              have hm2 : (y : Int) * (W : Int) ≤ 17 * 17 := Int.mul_le_mul (by omega) (by omega) (by omega) (by omega)
              have hm3 : 0 ≤ ((y : Int) + (lag : Int)) * (W : Int) := Int.mul_nonneg (by omega) (by omega)
              have hm4 : ((y : Int) + (lag : Int)) * (W : Int) ≤ 17 * 17 := Int.mul_le_mul (by omega) (by omega) (by omega) (by omega)
              have hle : (y + lag) * W + W ≤ W * H := by
                have : (y + lag + 1) * W ≤ H * W := Nat.mul_le_mul_right _ hyl
                rw [Nat.add_mul (y + lag), Nat.mul_comm H] at this
                omega
              have hle2 : y * W ≤ (y + lag) * W := Nat.mul_le_mul_right _ (by omega)
              have hcall := hC (visR W lag (H * W)) (visC W H lag (y * W + x)) (y * W + x) ((y + lag) * W + x) wr hI2 (by have := vlenR (W := W) (lag := lag) (H * W); rw [Nat.mul_comm H W] at this; rw [Nat.mul_comm H W]; exact this) (by have := vlenC (W := W) (H := H) (lag := lag) (y * W + x); omega) (by omega) (by omega)
              have hv : Hid (visC W H lag (y * W + x + 1) = visC W H lag (y * W + x) ++ [(y * W + x, (y + lag) * W + x)]) := Lib.hid (by
                rw [visC_yes (by rw [(row_mod hxl).2]; exact hyl)]
                rw [show y * W + x + lag * W = (y + lag) * W + x by rw [Nat.add_mul]; omega])
              push_cast at hcall
              go_wp2_with fail
              refine hcall.mono ?_
              rintro e w2 ⟨rfl, hI3, hk3⟩
              clear hcall
              go_wp2
              go_roundw
              case rel => exact ⟨x + 1, by omega, by go_num, by rw [show y * W + (x + 1) = y * W + x + 1 by omega, hv.out]; exact hI3, hk2.trans hk3⟩
              case measure => simp [intOf]; omega
            · go_wp2
              go_roundw
              case rel => exact ⟨y + 1, by omega, by go_num, by rw [show (y + 1) * W = y * W + x by rw [Nat.add_mul]; omega]; exact hI2, hk2⟩
              case measure => simp [intOf]; omega
        · have hyi : ¬ (y : Int) + (lag : Int) < (H : Int) := by omega
          have hrest := visC_rest (W := W) (H := H) (lag := lag) (y := y) (by omega) (by omega) (H * W - y * W)
          have hle : y * W ≤ H * W := Nat.mul_le_mul_right _ hy
          go_wp2
          go_end0
          refine ⟨rfl, ?_, hk0.trans hk⟩
          rw [show H * W = y * W + (H * W - y * W) by omega, hrest, show y * W + (H * W - y * W) = H * W by omega]
          exact hI
end Go.Proofs.Ytcdipgkdbannmaa
