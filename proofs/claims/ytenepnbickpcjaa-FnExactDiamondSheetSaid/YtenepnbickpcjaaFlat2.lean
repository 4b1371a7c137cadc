/- FlatSheet, both sides. -/
import Derived.Test.YtenepnbickpcjaaFlat
namespace Go.Proofs.Ytenepnbickpcjaa
open Go.RowKit

def sideB (sw sh : Int) : Bool := (decide (1 ≤ sw) && decide (sw ≤ 17)) && (decide (1 ≤ sh) && decide (sh ≤ 17))
def flB (sw sh : Int) (x : Nat) : Bool := sideB sw sh && finB (cn .f32 x)
def flW (sw sh : Int) (x : Nat) : Int := if flB sw sh x then sw else 0
def flH (sw sh : Int) (x : Nat) : Int := if flB sw sh x then sh else 0
def flL (sw sh : Int) (x : Nat) : List Nat := if flB sw sh x then List.replicate (sw * sh).toNat (cn .f32 x) else []
theorem finL_rep {n x : Nat} (h : 0 < n) : finL (List.replicate n x) = finB (cn .f32 x) := by
  unfold finL
  cases n with
  | zero => omega
  | succ n => rw [List.replicate_succ, List.all_cons]; cases hf : finB (cn .f32 x) <;> simp [hf]
theorem sh_rep {W H x : Nat} (hW : 1 ≤ W ∧ W ≤ 17) (hH : 1 ≤ H ∧ H ≤ 17) : shB W H (List.replicate (W * H) x) = finB (cn .f32 x) := by
  have h0 : 0 < W * H := Nat.mul_pos (by omega) (by omega)
  unfold shB
  rw [finL_rep h0, List.length_replicate]
  have e1 : (decide (1 ≤ (W : Int)) && decide ((W : Int) ≤ 17)) = true := by simp; omega
  have e2 : (decide (1 ≤ (H : Int)) && decide ((H : Int) ≤ 17)) = true := by simp; omega
  rw [e1, e2]
  simp
theorem fl_yes {W H x : Nat} (hW : 1 ≤ W ∧ W ≤ 17) (hH : 1 ≤ H ∧ H ≤ 17) : flB W H x = finB (cn .f32 x) := by
  have e1 : (decide (1 ≤ (W : Int)) && decide ((W : Int) ≤ 17)) = true := by simp; omega
  have e2 : (decide (1 ≤ (H : Int)) && decide ((H : Int) ≤ 17)) = true := by simp; omega
  unfold flB sideB
  rw [e1, e2]
  rfl
theorem own_put3 {n g : Nat} {w : World} {B : Option Addr} {xs : List Value} (h : OwnS n w B xs) (hg : g < n) (x y z : Value) : OwnS n (((w.setCell ⟨g, 0, none⟩ x).setCell ⟨g, 1, none⟩ y).setCell ⟨g, 2, none⟩ z) B xs :=
  h.keep ((((Keep.refl (fun k => k = g) w).setCell (.inl rfl) x).setCell (.inl rfl) y).setCell (.inl rfl) z) (fun b hb e => by have := (h.2.2 b hb).1; omega)
/-- What is given for sides that are such, the height finite or not. -/
theorem fl_give {W H x : Nat} (hW : 1 ≤ W ∧ W ≤ 17) (hH : 1 ≤ H ∧ H ≤ 17) {w w' : World} {B : Option Addr} {c : Nat} (ho : OwnS w.heap.size w' B ((List.replicate (W * H) x).map fv)) (k : Below w.heap.size w w') :
    SheetR w (flW W H x) (flH W H x) (flL W H x) (flB W H x) (.returned (.tuple #[if finB (cn .f32 x) then shv W H B (W * H) c else shv 0 0 none 0 0, .bool (finB (cn .f32 x))])) w' := by
  unfold flW flH flL
  rw [fl_yes hW hH]
  cases finB (cn .f32 x)
  · exact sheetR_none k
  · have hn : ((W : Int) * (H : Int)).toNat = W * H := by
      rw [← Int.natCast_mul]
      exact Int.toNat_natCast _
    rw [hn]
    refine ⟨B, c, List.replicate (W * H) x, by rw [List.length_replicate]; rfl, ?_, ho, k⟩
    unfold cl
    rw [List.map_replicate]
    rfl
set_option maxRecDepth 100000 in
set_option maxHeartbeats 1000000 in
theorem implFl_yes (W H : Nat) (x : Nat) (w : World) (hW : 1 ≤ W ∧ W ≤ 17) (hH : 1 ≤ H ∧ H ≤ 17) : Calls Try.prog 34 #[.int .i64 W, .int .i64 H, .float .f32 x] w (SheetR w (flW W H x) (flH W H x) (flL W H x) (flB W H x)) := by
  have hm1 : 0 ≤ (W : Int) * (H : Int) := Int.mul_nonneg (by omega) (by omega)
  have hm2 : (W : Int) * (H : Int) ≤ 17 * 17 := Int.mul_le_mul (by omega) (by omega) (by omega) (by omega)
  have hwm : IntKind.i64.wrap ((W : Int) * (H : Int)) = (W : Int) * (H : Int) := IntWalk.i64_in _ (by omega)
  go_enter Try.func34, Try.ntmps34
  go_wp2_with fail
  refine (side_yes _ _ ⟨by omega, by omega⟩).mono ?_
  rintro e w1 ⟨rfl, rfl⟩
  go_wp2_with fail
  refine (side_yes _ _ ⟨by omega, by omega⟩).mono ?_
  rintro e w1 ⟨rfl, rfl⟩
  go_wp2_with fail
  obtain ⟨W1, hW1⟩ : ∃ W1, W1 = (w.alloc (.cells #[.int .i64 0, .int .i64 0, .slice none 0 0] 33)).alloc (.cells #[.float .f32 x] 22) := ⟨_, rfl⟩
  have K1 : Below w.heap.size w W1 := by rw [hW1]; exact Below.step (below_alloc _ _) (below_alloc _ _)
  have z1 : W1.heap.size = w.heap.size + 2 := by rw [hW1, World.size_alloc, World.size_alloc]
  have hA : FRd W1 (some ⟨w.heap.size + 1, 0, none⟩) [x] := by
    intro i u hu
    match i, hu with
    | 0, hu =>
      obtain rfl : fv x = u := by simpa using hu
      exact ⟨_, _, rfl, by omega, by rw [hW1]; simp [fv]⟩
    | i + 1, hu => exact absurd hu (by simp)
  have d0 : W1.cell? ⟨w.heap.size, 0, none⟩ = some (.int .i64 0) := by rw [hW1]; simp
  have d1 : W1.cell? ⟨w.heap.size, 1, none⟩ = some (.int .i64 0) := by rw [hW1]; simp
  have d2 : W1.cell? ⟨w.heap.size, 2, none⟩ = some (.slice none 0 0) := by rw [hW1]; simp
  have f0 : W1.frozen? ⟨w.heap.size, 0, none⟩ = false := by rw [hW1]; simp
  have f1 : W1.frozen? ⟨w.heap.size, 1, none⟩ = false := by rw [hW1]; simp
  have f2 : W1.frozen? ⟨w.heap.size, 2, none⟩ = false := by rw [hW1]; simp
  rw [← hW1]
  clear hW1
  have hlm : W * H ≤ 17 * 17 := Nat.mul_le_mul (by omega) (by omega)
  have hl0 : 0 < W * H := Nat.mul_pos (by omega) (by omega)
  have hR := repeat_any x (W * H) 1 _ W1 hA (by omega) hl0
  push_cast at hR
  refine hR.mono ?_
  rintro e w2 ⟨B, c2, rfl, o2, k2⟩
  clear hR
  have K2 := Below.step K1 k2
  have zb : w.heap.size < W1.heap.size := by omega
  have d0 := (k2.cell (p := ⟨w.heap.size, 0, none⟩) zb).trans d0
  have d1 := (k2.cell (p := ⟨w.heap.size, 1, none⟩) zb).trans d1
  have d2 := (k2.cell (p := ⟨w.heap.size, 2, none⟩) zb).trans d2
  have f0 := (k2.frozen (p := ⟨w.heap.size, 0, none⟩) zb).trans f0
  have f1 := (k2.frozen (p := ⟨w.heap.size, 1, none⟩) zb).trans f1
  have f2 := (k2.frozen (p := ⟨w.heap.size, 2, none⟩) zb).trans f2
  have z2 : w.heap.size < w2.heap.size := Nat.lt_of_lt_of_le zb k2.size
  clear k2
  go_wp2_with fail
  have I := ifSheet_any W H B c2 (List.replicate (W * H) x) w2 o2.1 (by rw [List.length_replicate]; unfold maxLen; omega)
  rw [sh_rep hW hH, List.length_replicate] at I
  refine I.mono ?_
  rintro e w3 ⟨rfl, k3⟩
  clear I
  have d0 := (k3.cell (p := ⟨w.heap.size, 0, none⟩) z2).trans d0
  have d1 := (k3.cell (p := ⟨w.heap.size, 1, none⟩) z2).trans d1
  have d2 := (k3.cell (p := ⟨w.heap.size, 2, none⟩) z2).trans d2
  have f0 := (k3.frozen (p := ⟨w.heap.size, 0, none⟩) z2).trans f0
  have f1 := (k3.frozen (p := ⟨w.heap.size, 1, none⟩) z2).trans f1
  have f2 := (k3.frozen (p := ⟨w.heap.size, 2, none⟩) z2).trans f2
  have K3 := Below.step K2 k3
  have O3 := Lib.hid (o2.below k3)
  have KK := Lib.hid K3
  have z3 : w.heap.size < w3.heap.size := Nat.lt_of_lt_of_le z2 k3.size
  clear k3 o2 K3 K2 K1
  have G := fun w' (o : OwnS w.heap.size w' B ((List.replicate (W * H) x).map fv)) k => Lib.hid (fl_give (c := c2) hW hH (w := w) o k)
  cases hf : finB (cn .f32 x)
  · simp only [hf, if_false, Bool.false_eq_true] at G
    go_wp2
    refine bodyPost_ret (v := .tuple #[shv 0 0 none 0 0, .bool false]) (by simp [results, Try.results34, go_sem, d0, d1, d2]) rfl ?_
    exact (G _ ((own_put3 O3.out (by omega) _ _ _).less (by omega)) (below_put3 KK.out (Nat.le_refl _))).out
  · simp only [hf, if_true] at G
    go_wp2
    refine bodyPost_ret (v := .tuple #[shv W H B (W * H) c2, .bool true]) (by simp [results, Try.results34, go_sem, d0, d1, d2]) rfl ?_
    exact (G _ ((own_put3 O3.out (by omega) _ _ _).less (by omega)) (below_put3 KK.out (Nat.le_refl _))).out
end Go.Proofs.Ytenepnbickpcjaa
