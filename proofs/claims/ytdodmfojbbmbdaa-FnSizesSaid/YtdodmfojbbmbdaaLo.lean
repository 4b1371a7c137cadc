/- The length of a complex number, both sides. -/
import Derived.Test.YtdodmfojbbmbdaaGb
import Derived.Test.YtdodmfojbbmbdaaPhA
namespace Go.Proofs.Ytdodmfojbbmbdaa
open Go.RowKit Ieee

/-- The power, its root, the length. -/
def lgP (a b : Nat) : Nat := fop .add .f64 (fop .mul .f64 (c64 a) (c64 a)) (fop .mul .f64 (c64 b) (c64 b))
def lgR (p : Nat) : Nat := (double.sqrt p).getD 0
def lgV (a b : Nat) : Nat := n32 (lgR (lgP a b))
/-- All goes well there. -/
def lgB (a b : Nat) : Bool := !isN .f32 a && !isN .f32 b && (floatBits .mul .f64 (c64 a) (c64 a) == some (fop .mul .f64 (c64 a) (c64 a))) && (floatBits .mul .f64 (c64 b) (c64 b) == some (fop .mul .f64 (c64 b) (c64 b))) && (floatBits .add .f64 (fop .mul .f64 (c64 a) (c64 a)) (fop .mul .f64 (c64 b) (c64 b)) == some (lgP a b)) && (double.sqrt (lgP a b) == some (lgR (lgP a b))) && nfit (lgR (lgP a b)) && !isN .f64 (lgR (lgP a b))
theorem det_some {op : BinOp} {k : FloatKind} {x y r : Nat} (h : floatBits op k x y = some r) : (∀ w, fres op k x y w = r) ∧ fdr op k x y = 0 :=
  ⟨fun w => by unfold fres; rw [h], by unfold fdr; rw [h]⟩
structure LgD (a b : Nat) : Prop where
  wa : wdr a = 0 ∧ ∀ w, wres a w = c64 a
  wb : wdr b = 0 ∧ ∀ w, wres b w = c64 b
  ma : (∀ w, fres .mul .f64 (c64 a) (c64 a) w = fop .mul .f64 (c64 a) (c64 a)) ∧ fdr .mul .f64 (c64 a) (c64 a) = 0
  mb : (∀ w, fres .mul .f64 (c64 b) (c64 b) w = fop .mul .f64 (c64 b) (c64 b)) ∧ fdr .mul .f64 (c64 b) (c64 b) = 0
  s : (∀ w, fres .add .f64 (fop .mul .f64 (c64 a) (c64 a)) (fop .mul .f64 (c64 b) (c64 b)) w = lgP a b) ∧ fdr .add .f64 (fop .mul .f64 (c64 a) (c64 a)) (fop .mul .f64 (c64 b) (c64 b)) = 0
  r : double.sqrt (lgP a b) = some (lgR (lgP a b))
  fit : nfit (lgR (lgP a b)) = true
  n : ndr (lgR (lgP a b)) = 0 ∧ ∀ w, nres (lgR (lgP a b)) w = lgV a b
theorem lgD_of {a b : Nat} (h : lgB a b = true) : LgD a b := by
  unfold lgB at h
  simp only [Bool.and_eq_true, Bool.not_eq_true', beq_iff_eq] at h
  obtain ⟨⟨⟨⟨⟨⟨⟨h1, h2⟩, h3⟩, h4⟩, h5⟩, h6⟩, h7⟩, h8⟩ := h
  refine ⟨⟨by unfold wdr; rw [h1]; rfl, fun w => by unfold wres c64; rw [h1]; rfl⟩, ⟨by unfold wdr; rw [h2]; rfl, fun w => by unfold wres c64; rw [h2]; rfl⟩, det_some h3, det_some h4, det_some h5, h6, h7, by unfold ndr; rw [h8]; rfl, fun w => ?_⟩
  unfold nres lgV n32
  rw [h8]
  rfl
theorem ext_sqrt (x r : Nat) (h : double.sqrt x = some r) (w : World) : (callFunc 46 #[.float .f64 x]).run Try.prog w = .ok (.value (.float .f64 r)) w := by
  rw [run_callFunc_extern (fn := Try.f46) (e := Extern.MathSqrt.sqrt) Try.func46 (by kernel_rfl) (by kernel_rfl) (by kernel_rfl) (by kernel_rfl)]
  have e : Extern.MathSqrt.sqrt #[.float .f64 x] = match FloatKind.f64.format.sqrt x with
    | some r => pure (.float .f64 r)
    | none => (do pure (.float .f64 (← choose (.nanBits .f64 x x)))) := rfl
  rw [show FloatKind.f64.format.sqrt x = some r from h] at e
  rw [e]
  rfl
theorem sqrt_any (x r : Nat) (h : double.sqrt x = some r) (w : World) : Calls Try.prog 37 #[.float .f64 x] w fun e w' => e = .returned (.float .f64 r) ∧ w' = w := by
  have h1 := fun w => ext_sqrt x r h w
  clear h
  go_enter Try.func37, Try.ntmps37
  go_wp2
  go_ret
  exact ⟨rfl, rfl⟩
theorem parts_any (a b : Nat) (D : LgD a b) (w : World) : Calls Try.prog 47 #[.complex .f32 a b] w fun e w' => e = .returned (.tuple #[.float .f64 (c64 a), .float .f64 (c64 b)]) ∧ w' = w := by
  obtain ⟨a1, a2⟩ := D.wa
  obtain ⟨b1, b2⟩ := D.wb
  have dz : ∀ v : World, v.drewN 0 = v := fun _ => rfl
  clear D
  go_enter Try.func47, Try.ntmps47
  go_wp2
  go_ret2
  exact ⟨rfl, rfl⟩
theorem power_any (a b : Nat) (D : LgD a b) (w : World) : Calls Try.prog 38 #[.complex .f32 a b] w fun e w' => e = .returned (.float .f64 (lgP a b)) ∧ w' = w := by
  obtain ⟨a1, a2⟩ := D.ma
  obtain ⟨b1, b2⟩ := D.mb
  obtain ⟨s1, s2⟩ := D.s
  have dz : ∀ v : World, v.drewN 0 = v := fun _ => rfl
  have HD := Lib.hid D
  clear D
  go_enter Try.func38, Try.ntmps38
  go_wp2_with (go_at_call 47; refine (parts_any _ _ HD.out _).mono ?_; rintro e w' ⟨rfl, rfl⟩)
  go_ret
  exact ⟨rfl, rfl⟩
theorem longOf_any (a b : Nat) (D : LgD a b) (w : World) : Calls Try.prog 22 #[.complex .f32 a b] w fun e w' => e = .returned (.float .f32 (lgV a b)) ∧ w' = w := by
  have NW := fun w => run_narrow (P := Try.prog) w 29 26 _ (by kernel_rfl) Try.underlying26 D.fit
  obtain ⟨n1, n2⟩ := D.n
  have dz : ∀ v : World, v.drewN 0 = v := fun _ => rfl
  have HD := Lib.hid D
  clear D
  go_enter Try.func22, Try.ntmps22
  go_wp2_with (first
    | (go_at_call 38; refine (power_any _ _ HD.out _).mono ?_; rintro e w' ⟨rfl, rfl⟩)
    | (go_at_call 37; refine (sqrt_any _ _ HD.out.r _).mono ?_; rintro e w' ⟨rfl, rfl⟩))
  go_ret
  exact ⟨rfl, rfl⟩
theorem powerW_any (a b : Nat) (D : LgD a b) (w : World) : Calls Try.prog 42 #[.complex .f32 a b] w fun e w' => e = .returned (.float .f64 (lgP a b)) ∧ w' = w := by
  obtain ⟨x1, x2⟩ := D.wa
  obtain ⟨y1, y2⟩ := D.wb
  obtain ⟨a1, a2⟩ := D.ma
  obtain ⟨b1, b2⟩ := D.mb
  obtain ⟨s1, s2⟩ := D.s
  have dz : ∀ v : World, v.drewN 0 = v := fun _ => rfl
  clear D
  go_enter Try.func42, Try.ntmps42
  go_wp2
  go_ret
  exact ⟨rfl, rfl⟩
theorem narrowD_any (x r : Nat) (h : nfit x = true) (n : ndr x = 0 ∧ ∀ w, nres x w = r) (w : World) : Calls Try.prog 39 #[.float .f64 x] w fun e w' => e = .returned (.float .f32 r) ∧ w' = w := by
  have NW := fun w => run_narrow (P := Try.prog) w 29 26 _ (by kernel_rfl) Try.underlying26 h
  obtain ⟨n1, n2⟩ := n
  have dz : ∀ v : World, v.drewN 0 = v := fun _ => rfl
  go_enter Try.func39, Try.ntmps39
  go_wp2
  go_ret
  exact ⟨rfl, rfl⟩
theorem l01Long_any (a b : Nat) (D : LgD a b) (w : World) : Calls Try.prog 25 #[.complex .f32 a b] w fun e w' => e = .returned (.float .f32 (lgV a b)) ∧ w' = w := by
  have HD := Lib.hid D
  clear D
  go_enter Try.func25, Try.ntmps25
  go_wp2_with (first
    | (go_at_call 42; refine (powerW_any _ _ HD.out _).mono ?_; rintro e w' ⟨rfl, rfl⟩)
    | (go_at_call 37; refine (sqrt_any _ _ HD.out.r _).mono ?_; rintro e w' ⟨rfl, rfl⟩)
    | (go_at_call 39; refine (narrowD_any _ _ HD.out.fit HD.out.n _).mono ?_; rintro e w' ⟨rfl, rfl⟩))
  go_ret
  exact ⟨rfl, rfl⟩
theorem specLong_any (a b : Nat) (D : LgD a b) (w : World) : Calls Try.prog 9 #[.complex .f32 a b] w fun e w' => e = .returned (.float .f32 (lgV a b)) ∧ w' = w := by
  go_enter Try.func9, Try.ntmps9
  go_wp2_with (go_at_call 25; refine (l01Long_any _ _ D _).mono ?_; rintro e w' ⟨rfl, rfl⟩)
  go_ret
  exact ⟨rfl, rfl⟩
end Go.Proofs.Ytdodmfojbbmbdaa
