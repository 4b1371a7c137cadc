/- SameNumber and SameSheet, both sides. -/
import Derived.Test.YtenepnbickpcjaaValid
import Derived.Test.YtenepnbickpcjaaSign
import Derived.Laws.Externs
import Derived.Deep.RegionWith
import Derived.BigRegion
namespace Go.Proofs.Ytenepnbickpcjaa
open Go.RowKit

theorem ext_f64bits (b : Nat) (w : World) : (callFunc 96 #[.float .f64 b]).run Try.prog w = .ok (.value (.int .u64 b)) w := by
  rw [run_callFunc_extern (fn := Try.f96) (e := Extern.MathFloatBits.float64bits) Try.func96 (by kernel_rfl) (by kernel_rfl) (by kernel_rfl) (by kernel_rfl)]
  rfl
theorem ext_f32bits (b : Nat) (w : World) : (callFunc 101 #[.float .f32 b]).run Try.prog w = .ok (.value (.int .u32 b)) w := by
  rw [run_callFunc_extern (fn := Try.f101) (e := Extern.MathFloatBits.float32bits) Try.func101 (by kernel_rfl) (by kernel_rfl) (by kernel_rfl) (by kernel_rfl)]
  rfl

theorem l01Bits_any (x : Nat) (hx : x < 4294967296) (w : World) : Calls Try.prog 95 #[.float .f32 x] w fun e w' => e = .returned (.int .i64 (cn .f32 x)) ∧ w' = w := by
  have hb := ext_f32bits
  cases hn : isN .f32 (cn .f32 x)
  · have h1 := ford_self hn
    rw [isN_cn] at hn
    have hc := Lib.hid (cn_of_not hn)
    clear hn
    go_enter Try.func95, Try.ntmps95
    go_wp2
    go_ret
    exact ⟨ret_int (by rw [hc.out]), rfl⟩
  · have h1 := ford_nanL (cn .f32 x) hn
    rw [isN_cn] at hn
    have hc := Lib.hid (cn_of_nan hn)
    clear hn
    go_enter Try.func95, Try.ntmps95
    go_wp2
    go_ret
    exact ⟨ret_int (by rw [hc.out]; rfl), rfl⟩
theorem l01Same_any (x y : Nat) (hx : x < 4294967296) (hy : y < 4294967296) (w : World) : Calls Try.prog 85 #[.float .f32 x, .float .f32 y] w fun e w' => e = .returned (.bool ((cn .f32 x : Int) == (cn .f32 y : Int))) ∧ ∃ n, w' = w.drewN n := by
  go_enter Try.func85, Try.ntmps85
  go_wp2_with fail
  refine (l01Bits_any _ hx _).mono ?_
  rintro e w1 ⟨rfl, rfl⟩
  go_wp2_with fail
  refine (l01Bits_any _ hy _).mono ?_
  rintro e w1 ⟨rfl, rfl⟩
  go_wp2
  go_ret
  exact ⟨ret_bool rfl, 0, rfl⟩
theorem signbit_any (b : Nat) (hb : b < 18446744073709551616) (w : World) : Calls Try.prog 86 #[.float .f64 b] w fun e w' => e = .returned (.bool (sgn .f64 b)) ∧ w' = w := by
  have he := ext_f64bits
  have hs := Lib.hid (sign_wrap b hb)
  go_enter Try.func86, Try.ntmps86
  go_wp2
  go_ret
  exact ⟨ret_bool hs.out, rfl⟩
theorem sameNumber_any (x y : Nat) (w : World) : Calls Try.prog 54 #[.float .f32 x, .float .f32 y] w fun e w' => e = .returned (.bool (sameN x y)) ∧ ∃ n, w' = w.drewN n := by
  cases nx : isN .f32 (cn .f32 x)
  · have h1 := ford_self nx
    cases ny : isN .f32 (cn .f32 y)
    · have h2 := ford_self ny
      have nx' := nx
      have ny' := ny
      rw [isN_cn] at nx' ny'
      have hS : Hid (sameN x y = ((ford .f32 (cn .f32 x) (cn .f32 y) == some .eq) && (sgn .f32 x == sgn .f32 y))) := Lib.hid (by unfold sameN; rw [nx', ny']; rfl)
      have wx : ∀ w, wres x w = Ieee.double.write (Ieee.single.read x) := fun w => by unfold wres; rw [nx']; rfl
      have wy : ∀ w, wres y w = Ieee.double.write (Ieee.single.read y) := fun w => by unfold wres; rw [ny']; rfl
      have sx := Lib.hid (sign_wide nx')
      have sy := Lib.hid (sign_wide ny')
      clear nx ny nx' ny'
      cases hf : (ford .f32 (cn .f32 x) (cn .f32 y) == some .eq)
      · go_enter Try.func54, Try.ntmps54
        go_wp2
        go_ret
        exact ⟨ret_bool (by rw [hS.out, hf]; rfl), 0, rfl⟩
      · go_enter Try.func54, Try.ntmps54
        go_wp2_with fail
        refine (signbit_any _ (write64_lt _) _).mono ?_
        rintro e w1 ⟨rfl, rfl⟩
        go_wp2_with fail
        refine (signbit_any _ (write64_lt _) _).mono ?_
        rintro e w1 ⟨rfl, rfl⟩
        go_wp2
        go_ret
        exact ⟨ret_bool (by rw [hS.out, hf, sx.out, sy.out]; rfl), _, rfl⟩
    · have h2 := ford_nanL (cn .f32 y) ny
      have hS : Hid (sameN x y = false) := Lib.hid (by rw [isN_cn] at nx ny; unfold sameN; rw [nx, ny]; rfl)
      clear nx ny
      go_enter Try.func54, Try.ntmps54
      go_wp2
      go_ret
      exact ⟨ret_bool hS.out.symm, 0, rfl⟩
  · have h1 := ford_nanL (cn .f32 x) nx
    cases ny : isN .f32 (cn .f32 y)
    · have h2 := ford_self ny
      have hS : Hid (sameN x y = false) := Lib.hid (by rw [isN_cn] at nx ny; unfold sameN; rw [nx, ny]; rfl)
      clear nx ny
      go_enter Try.func54, Try.ntmps54
      go_wp2
      go_ret
      exact ⟨ret_bool hS.out.symm, 0, rfl⟩
    · have h2 := ford_nanL (cn .f32 y) ny
      have hS : Hid (sameN x y = true) := Lib.hid (by rw [isN_cn] at nx ny; unfold sameN; rw [nx, ny]; rfl)
      clear nx ny
      go_enter Try.func54, Try.ntmps54
      go_wp2
      go_ret
      exact ⟨ret_bool hS.out.symm, 0, rfl⟩
/-- Two lists of the same numbers. -/
def sameL (xs ys : List Nat) : Bool := decide (xs.map (cn .f32) = ys.map (cn .f32))
theorem sameL_len {xs ys : List Nat} (h : ¬ xs.length = ys.length) : sameL xs ys = false := by
  unfold sameL
  exact decide_eq_false fun he => h (by simpa using congrArg List.length he)
theorem sameL_bad {xs ys : List Nat} {k : Nat} (h1 : k < xs.length) (h2 : k < ys.length) (h : ((cn .f32 xs[k] : Int) == (cn .f32 ys[k] : Int)) = false) : sameL xs ys = false := by
  unfold sameL
  refine decide_eq_false fun he => ?_
  have hh := congrArg (fun l => l[k]?) he
  simp [h1, h2] at hh
  simp [hh] at h
theorem sameL_step {xs ys : List Nat} {k : Nat} (h1 : k < xs.length) (h2 : k < ys.length) (h : ((cn .f32 xs[k] : Int) == (cn .f32 ys[k] : Int)) = true) (hk : sameL (xs.take k) (ys.take k) = true) : sameL (xs.take (k + 1)) (ys.take (k + 1)) = true := by
  unfold sameL at *
  have hk' := of_decide_eq_true hk
  apply decide_eq_true
  have hh : cn .f32 xs[k] = cn .f32 ys[k] := Int.ofNat.inj (by simpa using h)
  rw [List.take_succ_eq_append_getElem h1, List.take_succ_eq_append_getElem h2, List.map_append, List.map_append, hk']
  simp [hh]

set_option maxHeartbeats 1000000 in
theorem l01SameAll_any (A B : Option Addr) (ca cb : Nat) (xs ys : List Nat) (w : World) (hA : FRd w A xs) (hB : FRd w B ys) (hn : xs.length ≤ maxLen) (_hm : ys.length ≤ maxLen) (hx : ∀ x ∈ xs, x < 4294967296) (hy : ∀ x ∈ ys, x < 4294967296) :
    Calls Try.prog 52 #[.slice A xs.length ca, .slice B ys.length cb] w fun e w' => e = .returned (.bool (sameL xs ys)) ∧ ∃ n, w' = w.drewN n := by
  unfold maxLen at hn
  have HX := Lib.hid hx
  have HY := Lib.hid hy
  clear hx hy
  by_cases hl : xs.length = ys.length
  · have hd : ((xs.length : Int) != ys.length) = false := by simp; omega
    have hl1 : xs.length ≤ ys.length := by omega
    have hl2 : ys.length ≤ xs.length := by omega
    clear hl
    go_enter Try.func52, Try.ntmps52
    go_wp2_with fail
    go_loopw [5] (fun i wr => ∃ k m : Nat, k ≤ xs.length ∧ i = .int .i64 k ∧ wr = w.drewN m ∧ Hid (sameL (xs.take k) (ys.take k) = true)) (fun i _ => xs.length - (intOf i).toNat)
    case atStart => exact ⟨0, 0, Nat.zero_le _, rfl, rfl, Lib.hid (by simp [sameL])⟩
    case round =>
      obtain ⟨k, m, hk, rfl, hwr, HF⟩ := hrel
      by_cases hlt : k < xs.length
      · have hlt2 : k < ys.length := by omega
        obtain ⟨b, o, rfl, hb, hc⟩ := hA.at_ hlt
        obtain ⟨b', o', rfl, hb', hd'⟩ := hB.at_ hlt2
        have hc : wr.cell? ⟨b, o + k, none⟩ = some (.float .f32 xs[k]) := by rw [hwr]; exact hc
        have hd' : wr.cell? ⟨b', o' + k, none⟩ = some (.float .f32 ys[k]) := by rw [hwr]; exact hd'
        have HW := Lib.hid hwr
        clear hwr
        have bx := HX.out _ (List.getElem_mem hlt)
        have by' := HY.out _ (List.getElem_mem hlt2)
        cases hf : ((cn .f32 xs[k] : Int) == (cn .f32 ys[k] : Int))
        · have HS := Lib.hid (sameL_bad hlt hlt2 hf)
          go_wp2_with fail
          go_quiet ((first | (go_at_call 85; exact Calls.quiet_of (l01Same_any _ _ bx by' _))))
          rw [hf]
          go_wp2
          go_ret
          exact ⟨ret_bool HS.out.symm, _, by rw [HW.out]; exact World.drewN_drewN _ _ _⟩
        · have HS := Lib.hid (sameL_step hlt hlt2 hf HF.out)
          go_wp2_with fail
          go_quiet ((first | (go_at_call 85; exact Calls.quiet_of (l01Same_any _ _ bx by' _))))
          rw [hf]
          go_wp2
          go_roundw
          case rel => exact ⟨k + 1, _, by omega, by go_num, by rw [HW.out]; exact World.drewN_drewN _ _ _, HS⟩
          case measure => simp [intOf]; omega
      · go_wp2
        go_ret
        obtain rfl : k = xs.length := by omega
        have h := HF.out
        rw [List.take_length, List.take_of_length_le (show ys.length ≤ xs.length by omega)] at h
        exact ⟨ret_bool h.symm, _, rfl⟩
  · have hd : ((xs.length : Int) != ys.length) = true := by simp; omega
    have HS := Lib.hid (sameL_len hl)
    clear hl
    go_enter Try.func52, Try.ntmps52
    go_wp2
    go_ret
    exact ⟨ret_bool HS.out.symm, 0, rfl⟩
set_option maxHeartbeats 1000000 in
theorem equalFunc_any (A B : Option Addr) (ca cb : Nat) (xs ys : List Nat) (w : World) (hA : FRd w A xs) (hB : FRd w B ys) (hn : xs.length ≤ maxLen) (_hm : ys.length ≤ maxLen) (hx : ∀ x ∈ xs, x < 4294967296) (hy : ∀ x ∈ ys, x < 4294967296) :
    Calls Try.prog 53 #[.slice A xs.length ca, .slice B ys.length cb, .func (.func 54) #[] #[]] w fun e w' => e = .returned (.bool (sameL xs ys)) ∧ ∃ n, w' = w.drewN n := by
  unfold maxLen at hn
  have HX := Lib.hid hx
  have HY := Lib.hid hy
  clear hx hy
  by_cases hl : xs.length = ys.length
  · have hd : ((xs.length : Int) != ys.length) = false := by simp; omega
    have hl1 : xs.length ≤ ys.length := by omega
    have hl2 : ys.length ≤ xs.length := by omega
    clear hl
    go_enter Try.func53, Try.ntmps53
    go_wp2_with fail
    go_loopw [17] (fun i wr => ∃ k m : Nat, k ≤ xs.length ∧ i = .int .i64 k ∧ wr = w.drewN m ∧ Hid (sameL (xs.take k) (ys.take k) = true)) (fun i _ => xs.length - (intOf i).toNat)
    case atStart => exact ⟨0, 0, Nat.zero_le _, rfl, rfl, Lib.hid (by simp [sameL])⟩
    case round =>
      obtain ⟨k, m, hk, rfl, rfl, HF⟩ := hrel
      by_cases hlt : k < xs.length
      · have hlt2 : k < ys.length := by omega
        obtain ⟨b, o, rfl, hb, hc⟩ := hA.at_ hlt
        obtain ⟨b', o', rfl, hb', hd'⟩ := hB.at_ hlt2
        have bx := HX.out _ (List.getElem_mem hlt)
        have by' := HY.out _ (List.getElem_mem hlt2)
        have hq := sameN_cn bx by'
        cases hf : sameN xs[k] ys[k]
        · have HS := Lib.hid (sameL_bad hlt hlt2 (hq.symm.trans hf))
          clear hq bx by'
          go_wp2_with (go_at_call 54; refine (sameNumber_any _ _ _).mono ?_; rintro e w' ⟨rfl, n', rfl⟩)
          go_ret
          exact ⟨ret_bool HS.out.symm, _, rfl⟩
        · have HS := Lib.hid (sameL_step hlt hlt2 (hq.symm.trans hf) HF.out)
          clear hq bx by'
          go_wp2_with (go_at_call 54; refine (sameNumber_any _ _ _).mono ?_; rintro e w' ⟨rfl, n', rfl⟩)
          go_roundw
          case rel => exact ⟨k + 1, _, by omega, by go_num, rfl, HS⟩
          case measure => simp [intOf]; omega
      · go_wp2
        go_ret
        obtain rfl : k = xs.length := by omega
        have h := HF.out
        rw [List.take_length, List.take_of_length_le (show ys.length ≤ xs.length by omega)] at h
        exact ⟨ret_bool h.symm, _, rfl⟩
  · have hd : ((xs.length : Int) != ys.length) = true := by simp; omega
    have HS := Lib.hid (sameL_len hl)
    clear hl
    go_enter Try.func53, Try.ntmps53
    go_wp2
    go_ret
    exact ⟨ret_bool HS.out.symm, 0, rfl⟩

def smB (sw sh : Int) (xs : List Nat) (tw th : Int) (ys : List Nat) : Bool := (decide (sw = tw) && decide (sh = th)) && sameL xs ys
set_option maxHeartbeats 1000000 in
theorem specSame_any (sw sh tw th : Int) (A B : Option Addr) (ca cb : Nat) (xs ys : List Nat) (w : World) (hA : FRd w A xs) (hB : FRd w B ys) (hn : xs.length ≤ maxLen) (hm : ys.length ≤ maxLen) (hx : ∀ x ∈ xs, x < 4294967296) (hy : ∀ x ∈ ys, x < 4294967296) :
    Calls Try.prog 21 #[shv sw sh A xs.length ca, shv tw th B ys.length cb] w fun e w' => e = .returned (.bool (smB sw sh xs tw th ys)) ∧ Below w.heap.size w w' := by
  have HX := Lib.hid hx
  have HY := Lib.hid hy
  clear hx hy
  have k2 : Below w.heap.size w ((w.alloc (.cells #[.int .i64 sw, .int .i64 sh, .slice A xs.length ca] 33)).alloc (.cells #[.int .i64 tw, .int .i64 th, .slice B ys.length cb] 33)) := Below.step (below_alloc _ _) (below_alloc _ _)
  by_cases h1 : sw = tw
  · by_cases h2 : sh = th
    · have HS : Hid (smB sw sh xs tw th ys = sameL xs ys) := Lib.hid (by unfold smB; simp [h1, h2])
      subst h1; subst h2
      go_enter Try.func21, Try.ntmps21
      go_wp2_with (go_at_call 52; refine (l01SameAll_any _ _ _ _ _ _ _ (Rd.below hA k2) (Rd.below hB k2) hn hm HX.out HY.out).mono ?_; rintro e w' ⟨rfl, n', rfl⟩)
      go_ret
      exact ⟨ret_bool HS.out.symm, below_drewN k2 _⟩
    · have HS : Hid (smB sw sh xs tw th ys = false) := Lib.hid (by unfold smB; simp [h2])
      have h2' : (sh == th) = false := by simp [h2]
      subst h1
      go_enter Try.func21, Try.ntmps21
      go_wp2
      go_ret
      exact ⟨ret_bool HS.out.symm, k2⟩
  · have HS : Hid (smB sw sh xs tw th ys = false) := Lib.hid (by unfold smB; simp [h1])
    have h1' : (sw == tw) = false := by simp [h1]
    go_enter Try.func21, Try.ntmps21
    go_wp2
    go_ret
    exact ⟨ret_bool HS.out.symm, k2⟩
set_option maxHeartbeats 1000000 in
theorem implSame_any (sw sh tw th : Int) (A B : Option Addr) (ca cb : Nat) (xs ys : List Nat) (w : World) (hA : FRd w A xs) (hB : FRd w B ys) (hn : xs.length ≤ maxLen) (hm : ys.length ≤ maxLen) (hx : ∀ x ∈ xs, x < 4294967296) (hy : ∀ x ∈ ys, x < 4294967296) :
    Calls Try.prog 22 #[shv sw sh A xs.length ca, shv tw th B ys.length cb] w fun e w' => e = .returned (.bool (smB sw sh xs tw th ys)) ∧ Below w.heap.size w w' := by
  have HX := Lib.hid hx
  have HY := Lib.hid hy
  clear hx hy
  have k2 : Below w.heap.size w ((w.alloc (.cells #[.int .i64 sw, .int .i64 sh, .slice A xs.length ca] 33)).alloc (.cells #[.int .i64 tw, .int .i64 th, .slice B ys.length cb] 33)) := Below.step (below_alloc _ _) (below_alloc _ _)
  by_cases h1 : sw = tw
  · by_cases h2 : sh = th
    · have HS : Hid (smB sw sh xs tw th ys = sameL xs ys) := Lib.hid (by unfold smB; simp [h1, h2])
      subst h1; subst h2
      go_enter Try.func22, Try.ntmps22
      go_wp2_with (go_at_call 53; refine (equalFunc_any _ _ _ _ _ _ _ (Rd.below hA k2) (Rd.below hB k2) hn hm HX.out HY.out).mono ?_; rintro e w' ⟨rfl, n', rfl⟩)
      go_ret
      exact ⟨ret_bool HS.out.symm, below_drewN k2 _⟩
    · have HS : Hid (smB sw sh xs tw th ys = false) := Lib.hid (by unfold smB; simp [h2])
      have h2' : (sh == th) = false := by simp [h2]
      subst h1
      go_enter Try.func22, Try.ntmps22
      go_wp2
      go_ret
      exact ⟨ret_bool HS.out.symm, k2⟩
  · have HS : Hid (smB sw sh xs tw th ys = false) := Lib.hid (by unfold smB; simp [h1])
    have h1' : (sw == tw) = false := by simp [h1]
    go_enter Try.func22, Try.ntmps22
    go_wp2
    go_ret
    exact ⟨ret_bool HS.out.symm, k2⟩
end Go.Proofs.Ytenepnbickpcjaa
