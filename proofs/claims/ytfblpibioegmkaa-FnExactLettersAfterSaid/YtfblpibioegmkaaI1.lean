/- Lists of numbers in the law: equal, marked, held. -/
import Derived.Test.YtfblpibioegmkaaL5
import Derived.BigQuiet
import Derived.BigGuardPart
namespace Go.Proofs.Ytfblpibioegmkaa
open Go.RowKit

/-- n numbers in memory from B on, which may be written. -/
def VecN (w : World) (B : Nat) (A : Option Addr) (n : Nat) (f : Nat → Int) : Prop := ∀ j, j < n → ∃ b, A = some ⟨b, 0, none⟩ ∧ B ≤ b ∧ b < w.heap.size ∧ w.cell? ⟨b, j, none⟩ = some (.int .i64 (f j)) ∧ w.frozen? ⟨b, j, none⟩ = false
theorem VecN.nil (w : World) (B : Nat) (A : Option Addr) (f : Nat → Int) : VecN w B A 0 f := fun _ hj => absurd hj (Nat.not_lt_zero _)
theorem VecN.of {w : World} {B g : Nat} {f : Nat → Int} (h : Vec w g f) (hB : B ≤ g) : VecN w B (some ⟨g, 0, none⟩) 27 f := fun j hj => ⟨g, rfl, hB, h.lt, h.c j hj, h.z j hj⟩
theorem VecN.keep {S : Nat → Prop} {w w' : World} {B n : Nat} {A : Option Addr} {f : Nat → Int} (h : VecN w B A n f) (k : Keep S w w') (hs : ∀ b, 0 < n → A = some ⟨b, 0, none⟩ → B ≤ b → b < w.heap.size → ¬ S b) : VecN w' B A n f := fun j hj => by
  obtain ⟨b, hA, hB, hl, hc, hz⟩ := h j hj
  have hs := fun h1 h2 h3 => hs b (by omega) h1 h2 h3
  exact ⟨b, hA, hB, Nat.lt_of_lt_of_le hl k.size, (World.cell?_of_block (w := w) (k.block b hl (hs hA hB hl))).trans hc, (World.frozen?_of_block (w := w) (k.block b hl (hs hA hB hl))).trans hz⟩
theorem VecN.below {w w' : World} {B n : Nat} {A : Option Addr} {f : Nat → Int} (h : VecN w B A n f) (k : Below w.heap.size w w') : VecN w' B A n f := h.keep (Keep.of_below (S := fun _ => False) k) (fun _ _ _ _ _ => id)
theorem VecN.drewN {w : World} {B n : Nat} {A : Option Addr} {f : Nat → Int} (h : VecN w B A n f) (m : Nat) : VecN (w.drewN m) B A n f := h
theorem VecN.congr {w : World} {B n : Nat} {A : Option Addr} {f g : Nat → Int} (h : VecN w B A n f) (e : ∀ j, j < n → f j = g j) : VecN w B A n g := fun j hj => by
  obtain ⟨b, hA, hB, hl, hc, hz⟩ := h j hj
  exact ⟨b, hA, hB, hl, by rw [← e j hj]; exact hc, hz⟩
theorem VecN.put {w : World} {B n b : Nat} {f : Nat → Int} (h : VecN w B (some ⟨b, 0, none⟩) n f) (i : Nat) (v : Int) (hi : i < n) : VecN (w.setCell ⟨b, i, none⟩ (.int .i64 v)) B (some ⟨b, 0, none⟩) n (upd f i v) := fun j hj => by
  obtain ⟨b', hA, hB, hl, hc, hz⟩ := h j hj
  injection hA with hA
  injection hA with h1 h2
  subst h1
  refine ⟨b, rfl, hB, by simpa [World.setCell] using hl, ?_, by simpa using hz⟩
  unfold upd
  by_cases e : j = i
  · subst e
    rw [if_pos rfl]
    exact World.cell?_setCell_same _ _ _ hc
  · rw [if_neg e]
    exact (World.cell?_setCell_other _ _ _ _ (by simp <;> omega)).trans hc
set_option maxHeartbeats 1000000 in
theorem eqI_ok (B C : Nat) (A D : Option Addr) (n c d : Nat) (f : Nat → Int) (w : World) (hn : n ≤ 27) (h : VecN w B A n f) (h2 : VecN w C D n f) :
    Calls Try.prog 40 #[.slice A n c, .slice D n d] w fun e w' => e = .returned (.bool true) ∧ ∃ m, w' = w.drewN m := by
  go_enter Try.func40, Try.ntmps40
  go_wp2_with fail
  go_loopw [5] (fun iv wr => ∃ k : Nat, k ≤ n ∧ iv = .int .i64 k ∧ ∃ m, wr = w.drewN m) (fun iv _ => n - (intOf iv).toNat)
  case atStart => exact ⟨0, Nat.zero_le _, rfl, 0, rfl⟩
  case round =>
    obtain ⟨k, hk, rfl, m, hw⟩ := hrel
    by_cases hlt : k < n
    · have h' : VecN wr B A n f := hw ▸ h.drewN m
      have h2' : VecN wr C D n f := hw ▸ h2.drewN m
      obtain ⟨b, rfl, _, _, c1, _⟩ := h' k hlt
      obtain ⟨b2, rfl, _, _, c2, _⟩ := h2' k hlt
      have HW := Lib.hid hw
      clear hw h' h2'
      go_wp2_with fail
      go_quiet (fail)
      go_wp2
      go_roundw
      case rel => exact ⟨k + 1, by omega, by go_num, _, by rw [HW.out]; exact World.drewN_drewN _ _ _⟩
      case measure => simp [intOf]; omega
    · obtain rfl : k = n := by omega
      have HW := Lib.hid hw
      clear hw
      go_wp2
      go_ret
      exact ⟨rfl, m, HW.out⟩
def mkF (k : Nat) : Nat → Int := fun j => (k : Int) + j
set_option maxHeartbeats 1000000 in
theorem markI_any (B : Nat) (A : Option Addr) (n c k : Nat) (f : Nat → Int) (w : World) (hn : n ≤ 27) (hk : k ≤ 1000) (h : VecN w B A n f) :
    Calls Try.prog 41 #[.slice A n c, .int .i64 k] w fun e w' => e = .returned (.int .i64 (k + n)) ∧ VecN w' B A n (mkF k) ∧ Keep (fun b => A = some ⟨b, 0, none⟩ ∧ B ≤ b) w w' := by
  go_enter Try.func41, Try.ntmps41
  go_wp2_with fail
  go_loopw [1, 5] (fun kv iv wr => ∃ i : Nat, i ≤ n ∧ iv = .int .i64 i ∧ kv = .int .i64 (k + i) ∧ VecN wr B A n (fun j => if j < i then mkF k j else f j) ∧ Keep (fun b => A = some ⟨b, 0, none⟩ ∧ B ≤ b) w wr) (fun _ iv _ => n - (intOf iv).toNat)
  case atStart => exact ⟨0, Nat.zero_le _, rfl, by simp, h, Keep.refl _ _⟩
  case round =>
    clear h
    obtain ⟨i, hi, rfl, rfl, h, kk⟩ := hrel
    by_cases hlt : i < n
    · obtain ⟨b, rfl, hB, hl, c1, z1⟩ := h i hlt
      dsimp only at c1
      rw [if_neg (by omega)] at c1
      have hp := h.put i (mkF k i) hlt
      have hp := hp.congr (g := fun j => if j < i + 1 then mkF k j else f j) (fun j _ => by
        unfold upd
        by_cases e : j = i
        · subst e; rw [if_pos rfl, if_pos (by omega)]
        · rw [if_neg e]
          show (if j < i then mkF k j else f j) = _
          by_cases e2 : j < i
          · rw [if_pos e2, if_pos (by omega)]
          · rw [if_neg e2, if_neg (by omega)])
      have kk' := kk.setCell (p := ⟨b, i, none⟩) (.inl ⟨rfl, hB⟩) (.int .i64 (mkF k i))
      have hm : mkF k i = (k : Int) + i := rfl
      rw [hm] at hp kk'
      generalize f i = v at c1
      clear h kk
      go_wp2_with fail
      go_roundw
      case rel => exact ⟨i + 1, by omega, by go_num, by go_num, hp, kk'⟩
      case measure => simp [intOf]; omega
    · obtain rfl : i = n := by omega
      have hm := h.congr (g := mkF k) (fun j hj => by rw [if_pos hj])
      go_wp2
      go_ret
      exact ⟨rfl, hm, kk⟩
set_option maxHeartbeats 1000000 in
theorem heldI_ok (B : Nat) (A : Option Addr) (n c k : Nat) (w : World) (hn : n ≤ 27) (hk : k ≤ 1000) (h : VecN w B A n (mkF k)) :
    Calls Try.prog 42 #[.slice A n c, .int .i64 k] w fun e w' => e = .returned (.int .i64 (k + n)) ∧ w' = w := by
  go_enter Try.func42, Try.ntmps42
  go_wp2_with fail
  go_loopw [1, 5] (fun kv iv wr => ∃ i : Nat, i ≤ n ∧ iv = .int .i64 i ∧ kv = .int .i64 (k + i) ∧ wr = w) (fun _ iv _ => n - (intOf iv).toNat)
  case atStart => exact ⟨0, Nat.zero_le _, rfl, by simp, rfl⟩
  case round =>
    obtain ⟨i, hi, rfl, rfl, rfl⟩ := hrel
    by_cases hlt : i < n
    · obtain ⟨b, rfl, _, _, c1, _⟩ := h i hlt
      have hm : mkF k i = (k : Int) + i := rfl
      rw [hm] at c1
      clear hm
      go_wp2_with fail
      go_roundw
      case rel => exact ⟨i + 1, by omega, by go_num, by go_num, by first | trivial | rfl⟩
      case measure => simp [intOf]; omega
    · obtain rfl : i = n := by omega
      go_wp2
      go_ret
      exact ⟨rfl, rfl⟩
theorem markI_at (B : Nat) (A : Option Addr) (n c : Nat) (f : Nat → Int) (w : World) (hn : n ≤ 27) (h : VecN w B A n f) :
    Calls Try.prog 41 #[.slice A n c, .int .i64 1] w fun e w' => e = .returned (.int .i64 (1 + n)) ∧ VecN w' B A n (mkF 1) ∧ Keep (fun b => A = some ⟨b, 0, none⟩ ∧ B ≤ b) w w' := markI_any B A n c 1 f w hn (by omega) h
theorem heldI_at (B : Nat) (A : Option Addr) (n c : Nat) (w : World) (hn : n ≤ 27) (h : VecN w B A n (mkF 1)) :
    Calls Try.prog 42 #[.slice A n c, .int .i64 1] w fun e w' => e = .returned (.int .i64 (1 + n)) ∧ w' = w := heldI_ok B A n c 1 w hn (by omega) h
end Go.Proofs.Ytfblpibioegmkaa
