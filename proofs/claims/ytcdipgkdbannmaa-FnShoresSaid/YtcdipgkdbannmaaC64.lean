/- Lists of complex numbers in the law: equal, marked, held. -/
import Derived.Test.YtcdipgkdbannmaaCont
import Derived.Laws.ComplexArith
namespace Go.Proofs.Ytcdipgkdbannmaa
open Go.RowKit

theorem run_ftf {P : Program} (w : World) (x : Nat) : (Conv.floatToFloat .f32 x .f64).run P w = .ok (.float .f64 (wres x w)) (w.drewN (wdr x)) := by
  unfold Conv.floatToFloat wres wdr isN
  show Sem.run P (match Ieee.single.read x with | _ => _) w = _
  cases hr : Ieee.single.read x with
  | nan a b => simp [FloatKind.decode, FloatKind.format, hr, Ieee.Datum.isNaN, choose, Sem.run, Question.forced, World.drewN]
  | infinity a => simp [FloatKind.decode, FloatKind.format, FloatKind.encode, hr, Ieee.Datum.isNaN, World.drewN]
  | number a m e =>
    have := widen_fits hr
    simp [FloatKind.decode, FloatKind.format, FloatKind.encode, hr, Ieee.Datum.isNaN, World.drewN, this]
@[go_sem] theorem run_widenC {P : Program} (w : World) (src dst : TypeId) (a b : Nat) (hs : (P.underlying src).isSome = true) (hd : P.underlying dst = some (.complex .f64)) :
    (convert src dst (.complex .f32 a b)).run P w = .ok (.complex .f64 (wres a w) (wres b (w.drewN (wdr a)))) ((w.drewN (wdr a)).drewN (wdr b)) := by
  obtain ⟨s, hs'⟩ := Option.isSome_iff_exists.1 hs
  cases s <;> simp [convert, run_underlying hs', run_underlying hd, Conv.complexToComplex, run_ftf]
theorem sameComplex_ok (a b c d : Nat) (h : cn .f64 c = cn .f64 a) (h2 : cn .f64 d = cn .f64 b) (w : World) :
    Calls Try.prog 47 #[.complex .f64 a b, .complex .f64 c d] w fun e w' => e = .returned (.bool true) ∧ ∃ n, w' = w.drewN n := by
  go_enter Try.func47, Try.ntmps47
  go_wp2_with fail
  refine (sameFloat_ok _ _ h _).mono ?_
  rintro e w1 ⟨rfl, n1, rfl⟩
  go_wp2_with fail
  refine (sameFloat_ok _ _ h2 _).mono ?_
  rintro e w2 ⟨rfl, n2, rfl⟩
  go_wp2
  go_ret
  exact ⟨rfl, _, rfl⟩
set_option maxHeartbeats 1000000 in
theorem eqC_ok (A B : Option Addr) (ca cb : Nat) (xs ys : List (Nat × Nat)) (w : World) (hA : CRd w A xs) (hB : CRd w B ys) (hn : xs.length ≤ maxLen) (he : cp xs = cp ys) :
    Calls Try.prog 19 #[.slice A xs.length ca, .slice B ys.length cb] w fun e w' => e = .returned (.bool true) ∧ ∃ n, w' = w.drewN n := by
  have hl : xs.length = ys.length := by rw [← cp_len, he, cp_len]
  have hcn : ∀ k (h1 : k < xs.length) (h2 : k < ys.length), cn .f32 xs[k].1 = cn .f32 ys[k].1 ∧ cn .f32 xs[k].2 = cn .f32 ys[k].2 := fun k h1 h2 => by
    have h := congrArg (fun l => l[k]?) he
    simpa [cp, h1, h2] using h
  unfold maxLen at hn
  have hl1 : xs.length ≤ ys.length := by omega
  have hl2 : ys.length ≤ xs.length := by omega
  have hd : ((xs.length : Int) != ys.length) = false := by simp; omega
  have HC := Lib.hid hcn
  clear hl he hcn
  go_enter Try.func19, Try.ntmps19
  go_wp2
  go_loopw [5] (fun i wr => ∃ k m : Nat, k ≤ xs.length ∧ i = .int .i64 k ∧ wr = w.drewN m) (fun i _ => xs.length - (intOf i).toNat)
  case atStart => exact ⟨0, 0, Nat.zero_le _, rfl, rfl⟩
  case round =>
    obtain ⟨k, m, hk, rfl, rfl⟩ := hrel
    by_cases hlt : k < xs.length
    · have hlt2 : k < ys.length := by omega
      obtain ⟨b, o, rfl, hb, hc⟩ := hA.at_ hlt
      obtain ⟨b', o', rfl, hb', hd'⟩ := hB.at_ hlt2
      have HE := Lib.hid (HC.out k hlt hlt2)
      generalize xs[k] = x at hc HE
      generalize ys[k] = y at hd' HE
      go_wp2_with fail
      go_region_with (first | (go_at_call 47; refine (sameComplex_ok _ _ _ _ (by rw [cn_wres, cn_wres, HE.out.1]) (by rw [cn_wres, cn_wres, HE.out.2]) _).mono ?_; rintro e w' ⟨rfl, n', rfl⟩))
      all_goals
        go_wp2
        go_roundw
        case rel => exact ⟨k + 1, _, by omega, by go_num, rfl⟩
        case measure => simp [intOf]; omega
    · go_wp2
      go_ret
      exact ⟨rfl, _, rfl⟩
/-- What the marks are. -/
def mkc (k : Nat) : Nat := (floatToFloatBits .f64 (floatOfInt .f64 (k : Int)) .f32).getD 0
theorem mkc_all : ∀ k : Nat, k < 1300 → floatToFloatBits .f64 (floatOfInt .f64 (k : Int)) .f32 = some (mkc k) ∧ isN .f32 (mkc k) = false := by decide +kernel
theorem one_narrow : floatToFloatBits .f64 4607182418800017408 .f32 = some 1065353216 := by decide +kernel
theorem mkc_conv {P : Program} (w : World) (src dst : TypeId) (k : Nat) (hk : k < 1300) (hs : (P.underlying src).isSome = true) (hd : P.underlying dst = some (.complex .f32)) :
    (convert src dst (.complex .f64 (floatOfInt .f64 (k : Int)) 4607182418800017408)).run P w = .ok (.complex .f32 (mkc k) 1065353216) w :=
  run_convert_complex w src dst .f64 .f32 _ _ _ _ hs hd (by unfold cConvBits; rw [(mkc_all k hk).1, one_narrow]; rfl)
def mkI (z : Int) : Nat := mkc z.toNat
def one32 : Nat := 1065353216
@[go_sem ↓] theorem mkI_conv {P : Program} (w : World) (src dst : TypeId) (z : Int) (hs : (P.underlying src).isSome = true) (hd : P.underlying dst = some (.complex .f32)) (h0 : 0 ≤ z) (h1 : z < 1300) :
    (convert src dst (.complex .f64 (floatOfInt .f64 z) 4607182418800017408)).run P w = .ok (.complex .f32 (mkI z) one32) w := by
  obtain ⟨k, rfl⟩ : ∃ k : Nat, z = k := ⟨z.toNat, by omega⟩
  have := mkc_conv (P := P) w src dst k (by omega) hs hd
  unfold mkI
  rw [Int.toNat_natCast]
  exact this
end Go.Proofs.Ytcdipgkdbannmaa
