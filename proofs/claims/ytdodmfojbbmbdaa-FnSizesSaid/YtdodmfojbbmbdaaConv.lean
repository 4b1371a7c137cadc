/- A 64-bit number narrowed, or made whole, where it fits. Nothing of the dump. -/
import Derived.Test.YtdodmfojbbmbdaaFloat
namespace Go.Proofs.Ytdodmfojbbmbdaa
open Go.RowKit Ieee

/-- It fits into 32 bits (or is an infinity, or a NaN). -/
def nfit (b : Nat) : Bool := match double.read b with
  | .number s m e => !(single.read (single.write (.number s m e))).isInfinity
  | _ => true
/-- A 64-bit number as a 32-bit one. -/
def n32 (x : Nat) : Nat := if isN .f64 x then qn .f32 else single.write (double.read x)
def nres (x : Nat) (w : World) : Nat := if isN .f64 x then (Question.nanConv .f32 x).cut (w.tape w.drawn (.nanConv .f32 x)) else single.write (double.read x)
def ndr (x : Nat) : Nat := if isN .f64 x then 1 else 0
@[go_sem] theorem cn_nres (x : Nat) (w : World) : cn .f32 (nres x w) = n32 (cn .f64 x) := by
  unfold nres n32
  rw [isN_cn]
  cases h : isN .f64 x
  · simp only [Bool.false_eq_true, if_false]
    rw [cn_of_not h]
    exact cn_of_not (isN_write .f32 _ h)
  · simp only [if_true]
    exact cn_of_nan (nan_conv _ _ _)
theorem nfit_cn (x : Nat) : nfit (cn .f64 x) = nfit x := by
  cases h : isN .f64 x
  · rw [cn_of_not h]
  · rw [cn_of_nan h]
    obtain ⟨s, t, hr⟩ := read_nan h
    have e : nfit (qn .f64) = true := by decide +kernel
    rw [e]
    unfold nfit
    rw [show double.read x = .nan s t from hr]
theorem run_narrow {P : Program} (w : World) (src dst : TypeId) (x : Nat) (hs : (P.underlying src).isSome = true) (hd : P.underlying dst = some (.float .f32)) (hf : nfit x = true) :
    (convert src dst (.float .f64 x)).run P w = .ok (.float .f32 (nres x w)) (w.drewN (ndr x)) := by
  obtain ⟨s, hs'⟩ := Option.isSome_iff_exists.1 hs
  have h : (Conv.floatToFloat .f64 x .f32).run P w = .ok (.float .f32 (nres x w)) (w.drewN (ndr x)) := by
    unfold Conv.floatToFloat nres ndr isN
    unfold nfit at hf
    show Sem.run P (match double.read x with | _ => _) w = _
    cases hr : double.read x with
    | nan a b => simp [FloatKind.decode, FloatKind.format, hr, Datum.isNaN, choose, Sem.run, Question.forced, World.drewN]
    | infinity a => simp [FloatKind.decode, FloatKind.format, FloatKind.encode, hr, Datum.isNaN, World.drewN]
    | number a m e =>
      rw [hr] at hf
      simp at hf
      simp [FloatKind.decode, FloatKind.format, FloatKind.encode, hr, Datum.isNaN, World.drewN, hf]
  cases s <;> simp [convert, run_underlying hs', run_underlying hd, h]
theorem run_whole {P : Program} (w : World) (src dst : TypeId) (x : Nat) (n : Int) (hs : (P.underlying src).isSome = true) (hd : P.underlying dst = some (.int .i64)) (hn : (double.read x).toInt .zero = some n) (h0 : -9223372036854775808 ≤ n) (h1 : n ≤ 9223372036854775807) :
    (convert src dst (.float .f64 x)).run P w = .ok (.int .i64 n) w := by
  obtain ⟨s, hs'⟩ := Option.isSome_iff_exists.1 hs
  have h : (Conv.floatToInt .f64 x .i64).run P w = .ok (.int .i64 n) w := by
    unfold Conv.floatToInt
    show Sem.run P (match (double.read x).toInt .zero with | _ => _) w = _
    have e0 : IntKind.i64.min = -9223372036854775808 := by decide
    have e1 : IntKind.i64.max = 9223372036854775807 := by decide
    simp [FloatKind.decode, FloatKind.format, hn, e0, e1, h0, h1]
  cases s <;> simp [convert, run_underlying hs', run_underlying hd, h]
end Go.Proofs.Ytdodmfojbbmbdaa
