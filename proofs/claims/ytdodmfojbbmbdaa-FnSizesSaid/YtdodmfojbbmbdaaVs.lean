/- Whether a map is valid. -/
import Derived.Test.YtdodmfojbbmbdaaTb
namespace Go.Proofs.Ytdodmfojbbmbdaa
open Go.RowKit Ieee

/-- The size of a number. -/
def szW (x : Nat) : Nat := c64 x % 9223372036854775808
def szV (x : Nat) : Nat := n32 (szW x)
def szB (x : Nat) : Bool := !isN .f32 x && decide (c64 x < 18446744073709551616) && decide (szW x < 2047 * 4503599627370496) && nfit (szW x) && !isN .f64 (szW x)
theorem size_any (x : Nat) (h : szB x = true) (w : World) : Calls Try.prog 31 #[.float .f32 x] w fun e w' => e = .returned (.float .f32 (szV x)) ∧ w' = w := by
  unfold szB at h
  simp only [Bool.and_eq_true, Bool.not_eq_true', decide_eq_true_eq] at h
  obtain ⟨⟨⟨⟨h1, h2⟩, h3⟩, h4⟩, h5⟩ := h
  have e1 : wdr x = 0 ∧ ∀ w, wres x w = c64 x := ⟨by unfold wdr; rw [h1]; rfl, fun w => by unfold wres c64; rw [h1]; rfl⟩
  have e2 : c64 x = double.word (decide (9223372036854775808 ≤ c64 x)) (szW x) := by
    unfold szW Format.word
    rw [sw64]
    by_cases hb : 9223372036854775808 ≤ c64 x
    · rw [decide_eq_true hb]; simp; omega
    · rw [decide_eq_false hb]; simp; omega
  have e3 : double.word false (szW x) = szW x := rfl
  have NW := fun w => run_narrow (P := Try.prog) w 29 26 _ (by kernel_rfl) Try.underlying26 h4
  have n1 : ndr (szW x) = 0 ∧ ∀ w, nres (szW x) w = szV x := ⟨by unfold ndr; rw [h5]; rfl, fun w => by unfold nres szV n32; rw [h5]; rfl⟩
  have A := fun w => abs_any (decide (9223372036854775808 ≤ c64 x)) (szW x) h3 w
  rw [← e2, e3] at A
  have dz : ∀ v : World, v.drewN 0 = v := fun _ => rfl
  obtain ⟨e1a, e1b⟩ := e1
  obtain ⟨n1a, n1b⟩ := n1
  have HA := Lib.hid A
  clear A e2 e3 h2 h3
  go_enter Try.func31, Try.ntmps31
  go_wp2_with fail
  refine (HA.out _).mono ?_
  rintro e w1 ⟨rfl, rfl⟩
  go_wp2
  go_ret
  exact ⟨rfl, rfl⟩
def leK (k : FloatKind) (x y : Nat) : Bool := ford k x y == some .lt || ford k x y == some .eq
def geK (k : FloatKind) (x y : Nat) : Bool := ford k x y == some .gt || ford k x y == some .eq
def shareB (x : Nat) : Bool := geK .f32 (cn .f32 x) (cn .f32 0) && leK .f32 (cn .f32 x) (cn .f32 1065353216)
theorem isShare_any (x : Nat) (h : shareB x = true) (w : World) : Calls Try.prog 26 #[.float .f32 x] w fun e w' => e = .returned (.bool true) ∧ w' = w := by
  unfold shareB geK leK at h
  rw [Bool.and_eq_true] at h
  obtain ⟨h1, h2⟩ := h
  go_enter Try.func26, Try.ntmps26
  go_wp2
  go_ret
  exact ⟨rfl, rfl⟩
/-- A part that is small. -/
def partB (x : Nat) : Bool := szB x && leK .f32 (cn .f32 (szV x)) (cn .f32 1148846080)
theorem isSmall_any (a b : Nat) (h : (partB a && partB b) = true) (w : World) : Calls Try.prog 43 #[.complex .f32 a b] w fun e w' => e = .returned (.bool true) ∧ w' = w := by
  unfold partB leK at h
  simp only [Bool.and_eq_true] at h
  obtain ⟨⟨h1, h2⟩, h3, h4⟩ := h
  go_enter Try.func43, Try.ntmps43
  go_wp2_with fail
  refine (size_any a h1 _).mono ?_
  rintro e w' ⟨rfl, rfl⟩
  go_wp2_with fail
  refine (size_any b h3 _).mono ?_
  rintro e w' ⟨rfl, rfl⟩
  go_wp2
  go_ret
  exact ⟨rfl, rfl⟩
/-- A map. -/
structure SmV where
  tr : Nat
  ti : Nat
  sr : Nat
  si : Nat
  fl : Bool
  sh : Nat
def smv (S : SmV) : Value := .agg #[.complex .f32 S.tr S.ti, .complex .f32 S.sr S.si, .bool S.fl, .float .f32 S.sh]
def vsB (S : SmV) : Bool := (partB S.tr && partB S.ti) && turnB S.tr S.ti && (partB S.sr && partB S.si) && shareB S.sh
set_option maxHeartbeats 1000000 in
theorem validSmall_any (S : SmV) (h : vsB S = true) (w : World) : Calls Try.prog 30 #[smv S] w fun e w' => e = .returned (.bool true) ∧ Below w.heap.size w w' := by
  obtain ⟨tr, ti, sr, si, fl, sh⟩ := S
  unfold vsB at h
  dsimp only at h
  rw [Bool.and_eq_true, Bool.and_eq_true, Bool.and_eq_true] at h
  obtain ⟨⟨⟨h1, h2⟩, h3⟩, h4⟩ := h
  unfold turnB at h2
  simp only [Bool.and_eq_true] at h2
  obtain ⟨⟨⟨⟨h5, h6⟩, _⟩, _⟩, _⟩ := h2
  have LO := fun w => longOf_any tr ti (lgD_of h5) w
  have A1 := fun w => isSmall_any tr ti h1 w
  have A2 := fun w => isSmall_any sr si h3 w
  have A3 := fun w => isShare_any sh h4 w
  obtain ⟨l, hl⟩ : ∃ l, l = lgV tr ti := ⟨_, rfl⟩
  rw [← hl] at LO h6
  clear hl h5 h1 h3 h4
  unfold smv
  dsimp only
  go_enter Try.func30, Try.ntmps30
  go_wp2_with fail
  refine (A1 _).mono ?_
  rintro e w' ⟨rfl, rfl⟩
  go_wp2_with fail
  refine (LO _).mono ?_
  rintro e w' ⟨rfl, rfl⟩
  go_wp2_with fail
  refine (A2 _).mono ?_
  rintro e w' ⟨rfl, rfl⟩
  go_wp2_with fail
  refine (A3 _).mono ?_
  rintro e w' ⟨rfl, rfl⟩
  go_wp2
  go_ret
  exact ⟨rfl, below_alloc _ _⟩
end Go.Proofs.Ytdodmfojbbmbdaa
