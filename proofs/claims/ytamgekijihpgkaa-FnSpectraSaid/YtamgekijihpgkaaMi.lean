/- Several texts in one: Rd, Re. -/
import Derived.Test.YtamgekijihpgkaaMh
import Derived.Test.YtamgekijihpgkaaShA
import Derived.Laws.Externs
import Derived.BigQuiet
import Derived.BigGuardPart
import Derived.Deep.QuietTactic
/- The law's small functions: the seed, lists that are the same. -/
namespace Go.Proofs.Ytamgekijihpgkaa
open Go.RowKit Ieee

theorem pickB_any (w : World) (p : Nat) (A : Option Addr) (L c k n : Nat) (hS : Src w p A L c k) (hB : BRd w A L) (hk : k ≤ 1000) (hL : L ≤ maxLen) (h2 : 200 < n) (h3 : n ≤ 65536) :
    Calls Try.prog 14 #[.pointer (some ⟨p, 0, none⟩), .int .i64 n] w fun e w' => ∃ x : Nat, e = .returned (.int .i64 x) ∧ x < n ∧ Keep (· = p) w w' ∧ Src w' p A L c (k + 2) := by
  have h2' : (1 : Int) < n := by omega
  have h3' : (200 : Int) < n := by omega
  have hS' := Lib.hid hS
  have hne := hS.ne
  go_enter Try.func14, Try.ntmps14
  go_wp2_with fail
  refine (next_any w p A L c k hS'.out hB (by omega) hL).mono ?_
  rintro e w1 ⟨x, rfl, hx, K, S⟩
  have HS := Lib.hid (And.intro K S)
  have B1 := hB.keep K hne
  clear K S
  have y1 : wrap64 ((x : Int) * 256) = (x : Int) * 256 := by unfold wrap64; omega
  go_wp2_with fail
  refine (next_any w1 p A L c (k + 1) HS.out.2 B1 (by omega) hL).mono ?_
  rintro e w2 ⟨y, rfl, hy, K, S⟩
  have HS2 := Lib.hid (And.intro (HS.out.1.trans K) S)
  clear K S HS
  obtain ⟨m, hm⟩ : ∃ m : Nat, m = (x * 256 + y) % n := ⟨_, rfl⟩
  have hlt : m < n := by rw [hm]; exact Nat.mod_lt _ (by omega)
  have hmI : ((x : Int) * 256 + (y : Int)) % (n : Int) = (m : Int) := by rw [hm, Int.natCast_emod, Int.natCast_add, Int.natCast_mul]; rfl
  have HM := Lib.hid hmI
  clear hm hmI
  go_wp2
  go_ret
  exact ⟨m, ret_i (by rw [← HM.out]), hlt, HS2.out.1, HS2.out.2⟩
theorem seed_any (A : Option Addr) (L c : Nat) (w : World) (hB : BRd w A L) (hL : L ≤ maxLen) : Calls Try.prog 5 #[.slice A L c] w fun e w' => ∃ s : Int, e = .returned (.int .i64 s) ∧ 0 ≤ s ∧ s ≤ 2147483647 ∧ Below w.heap.size w w' := by
  go_enter Try.func5, Try.ntmps5
  go_wp2_with fail
  refine (from_any A L c w hB).mono ?_
  rintro e w1 ⟨rfl, k1, S1⟩
  have B1 := hB.below k1
  have hne := S1.ne
  have HS := Lib.hid S1
  have HK := Lib.hid k1
  clear S1 k1
  go_wp2_with fail
  refine (pickB_any w1 w.heap.size A L c 0 32768 HS.out B1 (by omega) hL (by omega) (by omega)).mono ?_
  rintro e w2 ⟨x, rfl, hx, K2, S2⟩
  have B2 := B1.keep K2 hne
  have HS2 := Lib.hid S2
  have HK2 := Lib.hid K2
  clear S2 K2
  go_wp2_with fail
  refine (pickB_any w2 w.heap.size A L c 2 65536 HS2.out B2 (by omega) hL (by omega) (by omega)).mono ?_
  rintro e w3 ⟨y, rfl, hy, K3, S3⟩
  have HK3 : Hid (Below w.heap.size w w3) := Lib.hid (Keep.below HK.out (HK2.out.trans K3) HK.out.size (fun g h => by have h : g = w.heap.size := h; omega))
  clear S3 K3
  go_wp2
  go_ret
  exact ⟨_, rfl, by omega, by omega, HK3.out⟩
theorem ext_f32bits (b : Nat) (w : World) : (callFunc 62 #[.float .f32 b]).run Try.prog w = .ok (.value (.int .u32 b)) w := by
  rw [run_callFunc_extern (fn := Try.f62) (e := Extern.MathFloatBits.float32bits) Try.func62 (by kernel_rfl) (by kernel_rfl) (by kernel_rfl) (by kernel_rfl)]
  rfl
theorem ret_int' {k : IntKind} {a b : Int} (h : a = b) : Ending.returned (.int k a) = .returned (.int k b) := by rw [h]
theorem bits_num (x : Nat) (hn' : isN .f32 x = false) (hx : x < 4294967296) (w : World) : Calls Try.prog 61 #[.float .f32 x] w fun e w' => e = .returned (.int .i64 x) ∧ w' = w := by
  have hb := ext_f32bits
  have hn : isN .f32 (cn .f32 x) = false := by rw [isN_cn]; exact hn'
  have h1 := ford_self hn
  clear hn
  go_enter Try.func61, Try.ntmps61
  go_wp2
  go_ret
  exact ⟨rfl, rfl⟩
theorem same_num (x : Nat) (hn : isN .f32 x = false) (hx : x < 4294967296) (w : World) : Calls Try.prog 34 #[.float .f32 x, .float .f32 x] w fun e w' => e = .returned (.bool true) ∧ w' = w := by
  have S : ∀ w, Calls Try.prog 54 #[.float .f32 x, .float .f32 x] w fun e w' => e = .returned (.bool true) ∧ w' = w := fun w => by
    go_enter Try.func54, Try.ntmps54
    go_wp2_with fail
    refine (bits_num x hn hx _).mono ?_
    rintro e w1 ⟨rfl, rfl⟩
    go_wp2_with fail
    refine (bits_num x hn hx _).mono ?_
    rintro e w2 ⟨rfl, rfl⟩
    go_wp2
    go_ret
    exact ⟨by simp, rfl⟩
  go_enter Try.func34, Try.ntmps34
  go_wp2_with fail
  refine (S _).mono ?_
  rintro e w1 ⟨rfl, rfl⟩
  go_wp2
  go_ret
  exact ⟨rfl, rfl⟩
set_option maxHeartbeats 1000000 in
theorem list_any (A B : Option Addr) (ca cb : Nat) (xs : List Nat) (w : World) (hA : FRd w A xs) (hB : FRd w B xs) (hl : xs.length ≤ 64) (hx : ∀ i (h : i < xs.length), isN .f32 xs[i] = false ∧ xs[i] < 4294967296) :
    Calls Try.prog 11 #[.slice A xs.length ca, .slice B xs.length cb] w fun e w' => e = .returned (.bool true) ∧ Below w.heap.size w w' := by
  have HX := Lib.hid hx
  clear hx
  go_enter Try.func11, Try.ntmps11
  go_wp2_with fail
  go_loopw [13] (fun iv wr => ∃ (i : Nat), i ≤ xs.length ∧ iv = .int .i64 i ∧ Hid (Below w.heap.size w wr)) (fun iv _ => xs.length - (intOf iv).toNat)
  case atStart => exact ⟨0, by omega, rfl, Lib.hid (Below.refl _ _)⟩
  case round =>
    obtain ⟨i, hi, rfl, HW⟩ := hrel
    by_cases hil : i < xs.length
    · have hiI : (i : Int) < xs.length := by omega
      obtain ⟨b, o, rfl, hb, h1⟩ := (show FRd wr A xs from Rd.below hA HW.out).at_ hil
      obtain ⟨b', o', rfl, hb', h2⟩ := (show FRd wr B xs from Rd.below hB HW.out).at_ hil
      obtain ⟨x1, x2⟩ := HX.out i hil
      generalize xs[i] = x at h1 h2 x1 x2
      have SN := fun w => same_num x x1 x2 w
      clear x1 x2
      go_wp2_with fail
      go_quiet ((go_at_call 34; exact Calls.quiet_of_same (SN _)))
      go_wp2_with fail
      exact ⟨⟨i + 1, by omega, by go_num, Lib.hid (below_drewN HW.out _)⟩, by simp [intOf]; omega⟩
    · obtain rfl : i = xs.length := by omega
      go_wp2
      go_ret
      exact ⟨rfl, HW.out⟩
end Go.Proofs.Ytamgekijihpgkaa

/- The gap of two numbers; the law's last test. -/
namespace Go.Proofs.Ytamgekijihpgkaa
open Go.RowKit Ieee

/-- A gap of numbers of 64 bits. -/
def gapF (a b : Nat) : Nat := if ford .f64 a b == some .lt then fop .sub .f64 b a else fop .sub .f64 a b
theorem gapF_ok {a b : Nat} {q : Rat} (ha : isF .f64 a) (hb : isF .f64 b) (h1 : rv .f64 a - rv .f64 b ≤ q) (h2 : rv .f64 b - rv .f64 a ≤ q) (hq : q ≤ 10) : isF .f64 (gapF a b) ∧ rv .f64 (gapF a b) ≤ q + 1 / 1000000 := by
  obtain ⟨w0, w3, x0, x3⟩ := u64
  have hq0 : 0 ≤ q := by grind
  unfold gapF
  split
  · have hab : ab (rv .f64 b - rv .f64 a) ≤ 10 := by apply ab_le <;> grind
    have S := op_sub hb ha (by have := big64; grind)
    have f := Rat.mul_le_mul_of_nonneg_right hab w0
    have u := S.near.up
    exact ⟨S.near.fin, by grind⟩
  · have hab : ab (rv .f64 a - rv .f64 b) ≤ 10 := by apply ab_le <;> grind
    have S := op_sub ha hb (by have := big64; grind)
    have f := Rat.mul_le_mul_of_nonneg_right hab w0
    have u := S.near.up
    exact ⟨S.near.fin, by grind⟩
theorem gapF_lt {a b : Nat} (h : (ford .f64 (cn .f64 a) (cn .f64 b) == some .lt) = true) : gapF (cn .f64 a) (cn .f64 b) = fop .sub .f64 b a := by
  unfold gapF; rw [h, if_pos rfl, fop_cn]
theorem gapF_ge {a b : Nat} (h : (ford .f64 (cn .f64 a) (cn .f64 b) == some .lt) = false) : gapF (cn .f64 a) (cn .f64 b) = fop .sub .f64 a b := by
  unfold gapF; rw [h, if_neg (by decide), fop_cn]
theorem b10Gap_any (a b : Nat) (w : World) : Calls Try.prog 12 #[.float .f64 a, .float .f64 b] w fun e w' => ∃ r, e = .returned (.float .f64 r) ∧ cn .f64 r = gapF (cn .f64 a) (cn .f64 b) ∧ ∃ n, w' = w.drewN n := by
  cases h : (ford .f64 (cn .f64 a) (cn .f64 b) == some .lt)
  · have HG := Lib.hid (gapF_ge h)
    go_enter Try.func12, Try.ntmps12
    go_wp2
    go_ret
    exact ⟨_, rfl, by rw [cn_fres, HG.out, fop_cn], _, rfl⟩
  · have HG := Lib.hid (gapF_lt h)
    go_enter Try.func12, Try.ntmps12
    go_wp2
    go_ret
    exact ⟨_, rfl, by rw [cn_fres, HG.out, fop_cn], _, rfl⟩
/-! The law's last test. -/
def c05 : Nat := 4587366580439587226
def tP (a : Nat) : Nat := fop .add .f64 4607182418800017408 (c64 (q2 a))
def tM (a : Nat) : Nat := fop .mul .f64 c05 (tP a)
def tB (a : Nat) : Bool := isFb .f32 (q2 a) && decide (rv .f32 (q2 a) = (a : Rat) / 2) && (floatBits .add .f64 4607182418800017408 (c64 (q2 a)) == some (tP a)) && (floatBits .mul .f64 c05 (tP a) == some (tM a)) && isFb .f64 (tM a) && decide (499 / 10000 * (1 + (a : Rat) / 2) ≤ rv .f64 (tM a)) &&
  (ford .f32 (cn .f32 (q2 a)) (cn .f32 0) == some .gt || ford .f32 (cn .f32 (q2 a)) (cn .f32 0) == some .eq) && (ford .f32 (cn .f32 (q2 a)) (cn .f32 1090519040) == some .lt || ford .f32 (cn .f32 (q2 a)) (cn .f32 1090519040) == some .eq) && (floatBits .quo .f32 (floatOfInt .f32 (a : Int)) 1073741824 == some (q2 a))
theorem t_all : ∀ a, a < 9 → tB a = true := by decide +kernel
structure TF (a : Nat) : Prop where
  f : isF .f32 (q2 a)
  v : rv .f32 (q2 a) = (a : Rat) / 2
  p : floatBits .add .f64 4607182418800017408 (c64 (q2 a)) = some (tP a)
  m : floatBits .mul .f64 c05 (tP a) = some (tM a)
  mf : isF .f64 (tM a)
  mv : 499 / 10000 * (1 + (a : Rat) / 2) ≤ rv .f64 (tM a)
  g1 : (ford .f32 (cn .f32 (q2 a)) (cn .f32 0) == some .gt || ford .f32 (cn .f32 (q2 a)) (cn .f32 0) == some .eq) = true
  g2 : (ford .f32 (cn .f32 (q2 a)) (cn .f32 1090519040) == some .lt || ford .f32 (cn .f32 (q2 a)) (cn .f32 1090519040) == some .eq) = true
  q : floatBits .quo .f32 (floatOfInt .f32 (a : Int)) 1073741824 = some (q2 a)
theorem t_ok {a : Nat} (h : a < 9) : TF a := by
  have k := t_all a h
  unfold tB at k
  simp only [Bool.and_eq_true, decide_eq_true_eq, beq_iff_eq] at k
  obtain ⟨⟨⟨⟨⟨⟨⟨⟨k1, k2⟩, k3⟩, k4⟩, k5⟩, k6⟩, k7⟩, k8⟩, k9⟩ := k
  exact ⟨isF_of k1, k2, k3, k4, isF_of k5, k6, k7, k8, k9⟩
theorem last_test {a b : Nat} {seed : Int} {t : Nat} (ha : a < 9) (T : ToldF a b seed t) : (ford .f64 (gapF (c64 t) (c64 (q2 a))) (tM a) == some .lt) = true := by
  have F := t_ok ha
  obtain ⟨w1, w2⟩ := wide_val T.fin
  obtain ⟨w3, w4⟩ := wide_val F.f
  have up := T.up
  have lo := T.lo
  rw [← w2] at up lo
  have hv := F.v
  rw [← w4] at hv
  have ha4 : (a : Rat) / 2 ≤ 4 ∧ 0 ≤ (a : Rat) / 2 := by
    have h1 : (a : Rat) ≤ ((8 : Nat) : Rat) := Rat.natCast_le_natCast.2 (by omega)
    have h0 : (0 : Rat) ≤ (a : Rat) := by exact_mod_cast Nat.zero_le a
    have e8 : ((8 : Nat) : Rat) = 8 := rfl
    rw [e8] at h1
    constructor <;> grind
  have mv := F.mv
  generalize (a : Rat) / 2 = s at *
  obtain ⟨g1, g2⟩ := gapF_ok (q := 49 / 1000 * (1 + s)) w1 w3 (by rw [hv]; exact up) (by rw [hv]; exact lo) (by
    obtain ⟨h1, h2⟩ := ha4
    clear up lo hv mv w1 w2 w3 w4 T F
    grind)
  rw [(order_val g1 F.mf).1.2 (by
    obtain ⟨h1, h2⟩ := ha4
    clear up lo hv w1 w2 w3 w4 T F g1
    grind)]
  rfl
end Go.Proofs.Ytamgekijihpgkaa
