/- The lowest and the highest of a list; results with numbers. -/
import Derived.Test.YtenepnbickpcjaaFin
import Derived.Test.YtenepnbickpcjaaRows
import Derived.BigQuiet
import Derived.BigGuardPart
namespace Go.Proofs.Ytenepnbickpcjaa
open Go.RowKit

def lowF (c : Nat) (l : List Nat) : Nat := l.foldl (fun a x => if ford .f32 x a == some .lt then x else a) c
def highF (c : Nat) (l : List Nat) : Nat := l.foldl (fun a x => if ford .f32 x a == some .gt then x else a) c
def cl (xs : List Nat) : List Nat := xs.map (cn .f32)
theorem cl_len (xs : List Nat) : (cl xs).length = xs.length := by simp [cl]
theorem cl_take (xs : List Nat) (k : Nat) : cl (xs.take k) = (cl xs).take k := by simp [cl, List.map_take]
theorem cl_succ {xs : List Nat} {k : Nat} (h : k < xs.length) : cl (xs.take (k + 1)) = cl (xs.take k) ++ [cn .f32 xs[k]] := by
  rw [List.take_succ_eq_append_getElem h]; unfold cl; rw [List.map_append]; rfl
theorem lowF_snoc (c : Nat) (l : List Nat) (x : Nat) : lowF c (l ++ [x]) = if ford .f32 x (lowF c l) == some .lt then x else lowF c l := by simp [lowF]
theorem highF_snoc (c : Nat) (l : List Nat) (x : Nat) : highF c (l ++ [x]) = if ford .f32 x (highF c l) == some .gt then x else highF c l := by simp [highF]
theorem ford_irr (x : Nat) : (ford .f32 x x == some .lt) = false ∧ (ford .f32 x x == some .gt) = false := by
  cases h : isN .f32 x
  · rw [ford_self h]; exact ⟨rfl, rfl⟩
  · rw [ford_nanL _ h]; exact ⟨rfl, rfl⟩
theorem lowF_one (c : Nat) : lowF c [c] = c := by simp [lowF]
theorem highF_one (c : Nat) : highF c [c] = c := by simp [highF]

/-- A number and a yes or no; below the heap's size nothing has turned. -/
def NumB (w : World) (X : Nat) (ok : Bool) (e : Ending) (w' : World) : Prop := ∃ b, e = .returned (.tuple #[.float .f32 b, .bool ok]) ∧ cn .f32 b = X ∧ Below w.heap.size w w'

/-- A number and a yes or no, whatever was drawn. -/
def NumR (w : World) (X : Nat) (ok : Bool) (e : Ending) (w' : World) : Prop := ∃ b n, e = .returned (.tuple #[.float .f32 b, .bool ok]) ∧ cn .f32 b = X ∧ w' = w.drewN n
def FloatR (w : World) (X : Nat) (e : Ending) (w' : World) : Prop := ∃ b n, e = .returned (.float .f32 b) ∧ cn .f32 b = X ∧ w' = w.drewN n
def TwoR (w : World) (X Y : Nat) (e : Ending) (w' : World) : Prop := ∃ b c n, e = .returned (.tuple #[.float .f32 b, .float .f32 c]) ∧ cn .f32 b = X ∧ cn .f32 c = Y ∧ w' = w.drewN n
theorem ret_num {a b : Bool} {x : Nat} (h : a = b) : Ending.returned (.tuple #[.float .f32 x, .bool a]) = .returned (.tuple #[.float .f32 x, .bool b]) := by rw [h]
def numX (X : Nat) : Nat := if finB X then X else cn .f32 0
theorem l02Number_any (x : Nat) (w : World) : Calls Try.prog 55 #[.float .f32 x] w (NumR w (numX (cn .f32 x)) (finB (cn .f32 x))) := by
  cases hf : finB (cn .f32 x)
  all_goals
    go_enter Try.func55, Try.ntmps55
    go_wp2_with (go_at_call 63; refine (l01Finite_any _ _).mono ?_; rintro e w' ⟨rfl, n', rfl⟩)
    go_ret2
    exact ⟨_, _, by first | rfl | rw [hf], by simp [numX, hf], rfl⟩
theorem ifNumber_any (x : Nat) (w : World) : Calls Try.prog 56 #[.float .f32 x] w (NumR w (numX (cn .f32 x)) (finB (cn .f32 x))) := by
  cases hf : finB (cn .f32 x)
  all_goals
    go_enter Try.func56, Try.ntmps56
    go_wp2_with (go_at_call 66; refine (isFinite_any _ _).mono ?_; rintro e w' ⟨rfl, n', rfl⟩)
    go_ret2
    exact ⟨_, _, by first | rfl | rw [hf], by simp [numX, hf], rfl⟩

set_option maxHeartbeats 1000000 in
theorem span_any (A : Option Addr) (c : Nat) (xs : List Nat) (w : World) (hA : FRd w A xs) (hn : xs.length ≤ 1000) (h0 : 0 < xs.length) :
    Calls Try.prog 59 #[.slice A xs.length c] w (TwoR w (lowF (cn .f32 xs[0]) (cl xs)) (highF (cn .f32 xs[0]) (cl xs))) := by
  obtain ⟨b, o, rfl, hb, hc0⟩ := hA.at_ h0
  rw [Nat.add_zero] at hc0
  have h1 : (0 : Int) < xs.length := by omega
  go_enter Try.func59, Try.ntmps59
  go_wp2_with fail
  go_quiet (fail)
  go_wp2
  go_loop [4, 5, 16] (fun l h i => ∃ k bl bh : Nat, k ≤ xs.length ∧ i = .int .i64 k ∧ l = .float .f32 bl ∧ h = .float .f32 bh ∧ Hid (cn .f32 bl = lowF (cn .f32 xs[0]) (cl (xs.take k))) ∧ Hid (cn .f32 bh = highF (cn .f32 xs[0]) (cl (xs.take k)))) (fun _ _ i => xs.length - (intOf i).toNat)
  case atStart => exact ⟨0, _, _, by omega, rfl, rfl, rfl, Lib.hid rfl, Lib.hid rfl⟩
  case round =>
    obtain ⟨k, bl, bh, hk, rfl, rfl, rfl, HL, HH⟩ := hrel
    by_cases hlt : k < xs.length
    · obtain ⟨b', o', hA', _, hc⟩ := hA.at_ hlt
      injection hA' with hA'
      injection hA' with e1 e2
      subst e1; subst e2
      have L1 := lowF_snoc (cn .f32 xs[0]) (cl (xs.take k)) (cn .f32 xs[k])
      have H1 := highF_snoc (cn .f32 xs[0]) (cl (xs.take k)) (cn .f32 xs[k])
      rw [← cl_succ hlt] at L1 H1
      rw [← HL.out] at L1
      rw [← HH.out] at H1
      have L2 := Lib.hid L1
      have H2 := Lib.hid H1
      clear L1 H1
      cases hl : (ford .f32 (cn .f32 xs[k]) (cn .f32 bl) == some .lt)
      all_goals
        cases hh : (ford .f32 (cn .f32 xs[k]) (cn .f32 bh) == some .gt)
        all_goals
          go_wp2
          go_round
          case rel => exact ⟨k + 1, _, _, by omega, by go_num, rfl, rfl, Lib.hid (by rw [L2.out, hl]; rfl), Lib.hid (by rw [H2.out, hh]; rfl)⟩
          case measure => simp [intOf]; omega
    · go_wp2
      go_ret2
      obtain rfl : k = xs.length := by omega
      have e1 := HL.out
      have e2 := HH.out
      rw [List.take_length] at e1 e2
      exact ⟨_, _, _, rfl, e1, e2, rfl⟩

theorem NumR.b {w : World} {X : Nat} {ok : Bool} {e : Ending} {w' : World} (h : NumR w X ok e w') : NumB w X ok e w' := by
  obtain ⟨b, n, rfl, h, rfl⟩ := h
  exact ⟨b, rfl, h, below_drewN (Below.refl _ _) n⟩
end Go.Proofs.Ytenepnbickpcjaa
