/- Floats in a walk. Which bits a NaN has the language leaves open (the model draws them): so a number is told by its word with all NaNs made one ('cn'), and each operation's result by a plain function of its operands' such words. Nothing of the dump. -/
import Derived.WalkKit
import Derived.WalkLawsBesides
import Derived.Deep.Draws
namespace Go.Proofs.Ytamgekijihpgkaa
open Go.RowKit

def qn : FloatKind → Nat
  | .f32 => 2143289344
  | .f64 => 9221120237041090561
def isN (k : FloatKind) (b : Nat) : Bool := (k.format.read b).isNaN
def cn (k : FloatKind) (b : Nat) : Nat := if isN k b then qn k else b
theorem isN_qn (k : FloatKind) : isN k (qn k) = true := by cases k <;> decide +kernel
theorem cn_of_nan {k : FloatKind} {b : Nat} (h : isN k b = true) : cn k b = qn k := by simp [cn, h]
theorem cn_of_not {k : FloatKind} {b : Nat} (h : isN k b = false) : cn k b = b := by simp [cn, h]
theorem isN_cn (k : FloatKind) (b : Nat) : isN k (cn k b) = isN k b := by
  unfold cn
  split
  · rename_i h; rw [isN_qn, h]
  · rfl
theorem cn_cn (k : FloatKind) (b : Nat) : cn k (cn k b) = cn k b := by
  cases h : isN k b
  · rw [cn_of_not h, cn_of_not h]
  · rw [cn_of_nan h, cn_of_nan (isN_qn k)]

theorem read_nan {k : FloatKind} {b : Nat} (h : isN k b = true) : ∃ s t, k.format.read b = .nan s t := by
  unfold isN at h
  cases hr : k.format.read b with
  | nan s t => exact ⟨s, t, rfl⟩
  | number s m e => rw [hr] at h; simp [Ieee.Datum.isNaN] at h
  | infinity s => rw [hr] at h; simp [Ieee.Datum.isNaN] at h

theorem sum_nanR (d : Ieee.Datum) (s : Bool) (t : Nat) : d.sum (.nan s t) = none := by cases d <;> rfl
theorem product_nanR (d : Ieee.Datum) (s : Bool) (t : Nat) : d.product (.nan s t) = none := by cases d <;> rfl
theorem quotient_nanR (n : Nat) (d : Ieee.Datum) (s : Bool) (t : Nat) : d.quotient n (.nan s t) = none := by cases d <;> rfl
theorem order_nanR (d : Ieee.Datum) (s : Bool) (t : Nat) : d.order (.nan s t) = none := by cases d <;> rfl
theorem sum_nanL (d : Ieee.Datum) (s : Bool) (t : Nat) : Ieee.Datum.sum (.nan s t) d = none := by cases d <;> rfl
theorem product_nanL (d : Ieee.Datum) (s : Bool) (t : Nat) : Ieee.Datum.product (.nan s t) d = none := by cases d <;> rfl
theorem quotient_nanL (n : Nat) (d : Ieee.Datum) (s : Bool) (t : Nat) : Ieee.Datum.quotient n (.nan s t) d = none := by cases d <;> rfl
theorem order_nanL (d : Ieee.Datum) (s : Bool) (t : Nat) : Ieee.Datum.order (.nan s t) d = none := by cases d <;> rfl

theorem floatBits_nanL (op : BinOp) {k : FloatKind} {x : Nat} (y : Nat) (h : isN k x = true) : floatBits op k x y = none := by
  obtain ⟨s, t, hr⟩ := read_nan h
  unfold floatBits
  cases op <;> simp [Ieee.Format.add, Ieee.Format.sub, Ieee.Format.mul, Ieee.Format.div, hr, sum_nanL, product_nanL, quotient_nanL]
theorem floatBits_nanR (op : BinOp) {k : FloatKind} (x : Nat) {y : Nat} (h : isN k y = true) : floatBits op k x y = none := by
  obtain ⟨s, t, hr⟩ := read_nan h
  unfold floatBits
  cases op <;> simp [Ieee.Format.add, Ieee.Format.sub, Ieee.Format.mul, Ieee.Format.div, hr, Ieee.Datum.opposite, sum_nanR, product_nanR, quotient_nanR]

/-- What '+', '-', '*', '/' give, all NaNs made one. -/
def fop (op : BinOp) (k : FloatKind) (x y : Nat) : Nat := match floatBits op k x y with | some r => cn k r | none => qn k
theorem fop_cn (op : BinOp) (k : FloatKind) (x y : Nat) : fop op k (cn k x) (cn k y) = fop op k x y := by
  cases hx : isN k x
  · cases hy : isN k y
    · rw [cn_of_not hx, cn_of_not hy]
    · unfold fop; rw [floatBits_nanR op x hy, floatBits_nanR op _ (by rw [isN_cn]; exact hy)]
  · unfold fop; rw [floatBits_nanL op y hx, floatBits_nanL op _ (by rw [isN_cn]; exact hx)]
theorem cn_fop (op : BinOp) (k : FloatKind) (x y : Nat) : cn k (fop op k x y) = fop op k x y := by
  unfold fop
  split
  · exact cn_cn _ _
  · exact cn_of_nan (isN_qn k)

theorem nan32 (t : Nat) : isN .f32 ((t % 2) * 2 ^ 31 + 0x7f800000 + 1 + (t / 2) % (2 ^ 23 - 1)) = true := by
  have h2 := Nat.mod_lt (t / 2) (show 2 ^ 23 - 1 > 0 by decide)
  have h1 := Nat.mod_lt t (show 2 > 0 by decide)
  generalize (t / 2) % (2 ^ 23 - 1) = m at *
  generalize t % 2 = s at *
  have hm : (s * 2 ^ 31 + 0x7f800000 + 1 + m) % 2147483648 = 0x7f800000 + 1 + m := by omega
  have e1 : Ieee.single.signWeight = 2147483648 := by decide +kernel
  have e2 : Ieee.single.binade = 8388608 := by decide +kernel
  have e3 : Ieee.single.infRung = 2139095040 := by decide +kernel
  unfold isN
  show Ieee.Datum.isNaN (Ieee.single.read _) = true
  unfold Ieee.Format.read
  simp only [e1, e2, e3, hm]
  rw [if_neg (by omega), if_neg (by omega), if_neg (by omega)]
  rfl
theorem nan64 (t : Nat) : isN .f64 ((t % 2) * 2 ^ 63 + 0x7ff0000000000000 + 1 + (t / 2) % (2 ^ 52 - 1)) = true := by
  have h2 := Nat.mod_lt (t / 2) (show 2 ^ 52 - 1 > 0 by decide)
  have h1 := Nat.mod_lt t (show 2 > 0 by decide)
  generalize (t / 2) % (2 ^ 52 - 1) = m at *
  generalize t % 2 = s at *
  have hm : (s * 2 ^ 63 + 0x7ff0000000000000 + 1 + m) % 9223372036854775808 = 0x7ff0000000000000 + 1 + m := by omega
  have e1 : Ieee.double.signWeight = 9223372036854775808 := by decide +kernel
  have e2 : Ieee.double.binade = 4503599627370496 := by decide +kernel
  have e3 : Ieee.double.infRung = 9218868437227405312 := by decide +kernel
  unfold isN
  show Ieee.Datum.isNaN (Ieee.double.read _) = true
  unfold Ieee.Format.read
  simp only [e1, e2, e3, hm]
  rw [if_neg (by omega), if_neg (by omega), if_neg (by omega)]
  rfl
theorem nan_bits (k : FloatKind) (x y t : Nat) : isN k ((Question.nanBits k x y).cut t) = true := by
  cases k
  · exact nan32 t
  · exact nan64 t
theorem nan_conv (k : FloatKind) (x t : Nat) : isN k ((Question.nanConv k x).cut t) = true := by
  cases k
  · exact nan32 t
  · exact nan64 t

/-- The operation itself, under a name that the walk does not open. -/
def fsem (op : BinOp) (k : FloatKind) (x y : Nat) : Sem Value := Op.floatArith op k x y
/-- Its result in a world, and how many answers of the tape it takes. -/
def fres (op : BinOp) (k : FloatKind) (x y : Nat) (w : World) : Nat := match floatBits op k x y with | some r => r | none => (Question.nanBits k x y).cut (w.tape w.drawn (.nanBits k x y))
def fdr (op : BinOp) (k : FloatKind) (x y : Nat) : Nat := match floatBits op k x y with | some _ => 0 | none => 1
@[go_sem] theorem cn_fres (op : BinOp) (k : FloatKind) (x y : Nat) (w : World) : cn k (fres op k x y w) = fop op k (cn k x) (cn k y) := by
  rw [fop_cn]
  unfold fres fop
  split
  · rfl
  · exact cn_of_nan (nan_bits _ _ _ _)

section
variable {P : Program} (w : World) (t : TypeId) (k : FloatKind) (x y : Nat)
@[go_sem] theorem binOp_fadd : binOp .add t (.float k x) (.float k y) = fsem .add k x y := by simp [binOp, fsem]
@[go_sem] theorem binOp_fsub : binOp .sub t (.float k x) (.float k y) = fsem .sub k x y := by simp [binOp, fsem]
@[go_sem] theorem binOp_fmul : binOp .mul t (.float k x) (.float k y) = fsem .mul k x y := by simp [binOp, fsem]
@[go_sem] theorem binOp_fquo : binOp .quo t (.float k x) (.float k y) = fsem .quo k x y := by simp [binOp, fsem]
theorem run_fsem (op : BinOp) (hop : op = .add ∨ op = .sub ∨ op = .mul ∨ op = .quo) : (fsem op k x y).run P w = .ok (.float k (fres op k x y w)) (w.drewN (fdr op k x y)) := by
  unfold fsem fres fdr
  rcases hop with rfl | rfl | rfl | rfl
  all_goals
    simp only [Op.floatArith, floatBits, Sem.run_bind, Sem.run_pure, Result.andThen_ok]
    split
    · rename_i h; simp [h, World.drewN]
    · rename_i h; simp [h, choose, Sem.run, Question.forced, World.drewN]
@[go_sem] theorem run_fadd : (fsem .add k x y).run P w = .ok (.float k (fres .add k x y w)) (w.drewN (fdr .add k x y)) := run_fsem w k x y _ (.inl rfl)
@[go_sem] theorem run_fsub : (fsem .sub k x y).run P w = .ok (.float k (fres .sub k x y w)) (w.drewN (fdr .sub k x y)) := run_fsem w k x y _ (.inr (.inl rfl))
@[go_sem] theorem run_fmul : (fsem .mul k x y).run P w = .ok (.float k (fres .mul k x y w)) (w.drewN (fdr .mul k x y)) := run_fsem w k x y _ (.inr (.inr (.inl rfl)))
@[go_sem] theorem run_fquo : (fsem .quo k x y).run P w = .ok (.float k (fres .quo k x y w)) (w.drewN (fdr .quo k x y)) := run_fsem w k x y _ (.inr (.inr (.inr rfl)))
end

/-- How two numbers stand to each other. -/
def ford (k : FloatKind) (x y : Nat) : Option Ordering := k.format.order x y
theorem ford_nanL {k : FloatKind} {x : Nat} (y : Nat) (h : isN k x = true) : ford k x y = none := by
  obtain ⟨s, t, hr⟩ := read_nan h
  simp [ford, Ieee.Format.order, hr, order_nanL]
theorem ford_nanR {k : FloatKind} (x : Nat) {y : Nat} (h : isN k y = true) : ford k x y = none := by
  obtain ⟨s, t, hr⟩ := read_nan h
  simp [ford, Ieee.Format.order, hr, order_nanR]
theorem ford_cn (k : FloatKind) (x y : Nat) : ford k (cn k x) (cn k y) = ford k x y := by
  cases hx : isN k x
  · cases hy : isN k y
    · rw [cn_of_not hx, cn_of_not hy]
    · rw [ford_nanR x hy, ford_nanR _ (by rw [isN_cn]; exact hy)]
  · rw [ford_nanL y hx, ford_nanL _ (by rw [isN_cn]; exact hx)]
@[go_sem] theorem order_ford (k : FloatKind) (x y : Nat) : k.format.order x y = ford k (cn k x) (cn k y) := (ford_cn k x y).symm

section
open Ieee
theorem rung_word (f : Format) (neg : Bool) {r : Nat} (h : r < f.signWeight) : f.word neg r % f.signWeight = r := by
  unfold Format.word
  split
  · rw [Nat.add_mod_left, Nat.mod_eq_of_lt h]
  · exact Nat.mod_eq_of_lt h
theorem read_word (f : Format) (neg : Bool) {r : Nat} (h : r ≤ f.infRung) (hw : f.infRung < f.signWeight) :
    (f.read (f.word neg r)).isNaN = false ∧ (r < f.infRung → (f.read (f.word neg r)).isInfinity = false) := by
  have hr := rung_word f neg (Nat.lt_of_le_of_lt h hw)
  unfold Format.read
  simp only [hr]
  refine ⟨?_, fun hlt => ?_⟩
  · split
    · rfl
    · split
      · rfl
      · split
        · rfl
        · omega
  · split
    · rfl
    · rfl
theorem infRung_lt' (k : FloatKind) : k.format.infRung < k.format.signWeight := k.format.infRung_lt
theorem nearest_word (f : Format) (neg : Bool) (m : Nat) (e : Int) : ∃ r, r ≤ f.infRung ∧ f.nearest neg m e = f.word neg r := by
  unfold Format.nearest
  split
  · exact ⟨0, Nat.zero_le _, rfl⟩
  · exact ⟨_, Nat.min_le_right _ _, rfl⟩
/-- What is written of a number or an infinity is no NaN. -/
theorem isN_write (k : FloatKind) (d : Datum) (h : d.isNaN = false) : isN k (k.format.write d) = false := by
  cases d with
  | number neg m e =>
    obtain ⟨r, hr, he⟩ := nearest_word k.format neg m e
    unfold isN
    show (k.format.read (k.format.nearest neg m e)).isNaN = false
    rw [he]
    exact (read_word _ neg hr (infRung_lt' k)).1
  | infinity neg =>
    unfold isN
    show (k.format.read (k.format.word neg k.format.infRung)).isNaN = false
    exact (read_word _ neg (Nat.le_refl _) (infRung_lt' k)).1
  | nan s t => simp [Datum.isNaN] at h

theorem single_bounds {x : Nat} {neg : Bool} {m : Nat} {e : Int} (h : single.read x = .number neg m e) : m < 16777216 ∧ -149 ≤ e ∧ e ≤ 104 := by
  have e1 : single.signWeight = 2147483648 := by decide +kernel
  have e2 : single.binade = 8388608 := by decide +kernel
  have e3 : single.infRung = 2139095040 := by decide +kernel
  have e4 : single.leastPlace = -149 := by decide +kernel
  unfold Format.read at h
  simp only [e1, e2, e3, e4] at h
  generalize x % 2147483648 = r at *
  split at h
  · injection h with _ h2 h3; omega
  · split at h
    · injection h with _ h2 h3; omega
    · split at h <;> cases h
theorem cut_zero (neg : Bool) (n : Nat) : Toward.even.cut neg n 0 = n := by
  have : (1 : Nat) <<< (min 0 (n.log2 + 2)) = 1 := by simp
  unfold Toward.cut
  simp only [this, Nat.div_one, Nat.mod_one]
  simp
theorem widen_fits {x : Nat} {neg : Bool} {m : Nat} {e : Int} (h : single.read x = .number neg m e) : (double.read (double.write (.number neg m e))).isInfinity = false := by
  obtain ⟨hm, he1, he2⟩ := single_bounds h
  have e2 : double.binade = 4503599627370496 := by decide +kernel
  have e3 : double.infRung = 9218868437227405312 := by decide +kernel
  have e4 : double.leastPlace = -1074 := by decide +kernel
  have e5 : double.fractionBits = 52 := rfl
  show (double.read (double.nearest neg m e)).isInfinity = false
  unfold Format.nearest
  split
  · exact (read_word double neg (Nat.zero_le _) (infRung_lt' .f64)).2 (by rw [e3]; decide)
  · rename_i h0
    simp only [e2, e3, e4, e5]
    have hl : m.log2 < 24 := (Nat.log2_lt h0).2 (by omega)
    have hmax : max (e + (m.log2 : Int) - (52 : Nat)) (-1074) = e + (m.log2 : Int) - 52 := by omega
    rw [hmax]
    have ha : (e - (e + (m.log2 : Int) - 52)).toNat = 52 - m.log2 := by omega
    have hb : (e + (m.log2 : Int) - 52 - e).toNat = 0 := by omega
    rw [ha, hb, cut_zero, Nat.shiftLeft_eq]
    have hk : m * 2 ^ (52 - m.log2) < 2 ^ 53 := by
      have h1 : m < 2 ^ (m.log2 + 1) := Nat.lt_log2_self
      have h2 : 2 ^ (m.log2 + 1) * 2 ^ (52 - m.log2) = 2 ^ 53 := by rw [← Nat.pow_add]; congr 1; omega
      rw [← h2]
      exact Nat.mul_lt_mul_of_pos_right h1 (Nat.two_pow_pos _)
    have hp : (2 : Nat) ^ 53 = 2 * 4503599627370496 := by decide
    rw [hp] at hk
    have hI : double.infRung = 2047 * 4503599627370496 := by rw [e3]
    rw [← e3, hI]
    have hB : (0 : Nat) < 4503599627370496 := by decide
    rw [hI] at e3
    clear hp e3 e2
    generalize (4503599627370496 : Nat) = B at *
    generalize m * 2 ^ (52 - m.log2) = K at *
    have hq : (e + (m.log2 : Int) - 52 - -1074).toNat ≤ 1149 := by omega
    generalize (e + (m.log2 : Int) - 52 - -1074).toNat = q at *
    have hqB : q * B ≤ 1149 * B := Nat.mul_le_mul_right _ hq
    have hlt : q * B + K < 2047 * B := by omega
    rw [Nat.min_eq_left (Nat.le_of_lt hlt)]
    exact (read_word double neg (by rw [hI]; exact Nat.le_of_lt hlt) (infRung_lt' .f64)).2 (by rw [hI]; exact hlt)

/-- A 32-bit number as a 64-bit one. -/
def c64 (x : Nat) : Nat := if isN .f32 x then qn .f64 else double.write (single.read x)
def wres (x : Nat) (w : World) : Nat := if isN .f32 x then (Question.nanConv .f64 x).cut (w.tape w.drawn (.nanConv .f64 x)) else double.write (single.read x)
def wdr (x : Nat) : Nat := if isN .f32 x then 1 else 0
@[go_sem] theorem cn_wres (x : Nat) (w : World) : cn .f64 (wres x w) = c64 (cn .f32 x) := by
  unfold wres c64
  rw [isN_cn]
  cases h : isN .f32 x
  · simp only [Bool.false_eq_true, if_false]
    rw [cn_of_not h]
    exact cn_of_not (isN_write .f64 _ h)
  · simp only [if_true]
    exact cn_of_nan (nan_conv _ _ _)
@[go_sem] theorem run_widen {P : Program} (w : World) (src dst : TypeId) (x : Nat) (hs : (P.underlying src).isSome = true) (hd : P.underlying dst = some (.float .f64)) :
    (convert src dst (.float .f32 x)).run P w = .ok (.float .f64 (wres x w)) (w.drewN (wdr x)) := by
  obtain ⟨s, hs'⟩ := Option.isSome_iff_exists.1 hs
  have h : (Conv.floatToFloat .f32 x .f64).run P w = .ok (.float .f64 (wres x w)) (w.drewN (wdr x)) := by
    unfold Conv.floatToFloat wres wdr isN
    show Sem.run P (match single.read x with | _ => _) w = _
    cases hr : single.read x with
    | nan a b => simp [FloatKind.decode, FloatKind.format, hr, Datum.isNaN, choose, Sem.run, Question.forced, World.drewN]
    | infinity a => simp [FloatKind.decode, FloatKind.format, FloatKind.encode, hr, Datum.isNaN, World.drewN]
    | number a m e =>
      have := widen_fits hr
      simp [FloatKind.decode, FloatKind.format, FloatKind.encode, hr, Datum.isNaN, World.drewN, this]
  cases s <;> simp [convert, run_underlying hs', run_underlying hd, h]
def farE : Nat := 3000
theorem farE_gt : 2200 < farE := by decide
def farKey : Int := ((2 ^ farE : Nat) : Int)
/-- Where a number stands among its kind's: as a whole number. -/
def dkey (L : Int) : Datum → Int
  | .number s m e => signed s m (e - L).toNat
  | .infinity s => if s then -farKey else farKey
  | .nan _ _ => 0
def fkey (k : FloatKind) (x : Nat) : Int := dkey k.format.leastPlace (k.format.read x)

theorem cmp_lt {a b : Int} (h : a < b) : compare a b = .lt := by simp [compare, compareOfLessAndEq, h]
theorem cmp_gt {a b : Int} (h : b < a) : compare a b = .gt := by
  have h1 : ¬ a < b := by omega
  have h2 : ¬ a = b := by omega
  simp [compare, compareOfLessAndEq, h1, h2]
theorem cmp_eq (a : Int) : compare a a = .eq := by simp [compare, compareOfLessAndEq]

theorem signed_shift (s : Bool) (m a b : Nat) : signed s m (a + b) = signed s m a * (2 ^ b : Nat) := by
  unfold signed
  have : m <<< (a + b) = m <<< a * 2 ^ b := by rw [Nat.shiftLeft_eq, Nat.shiftLeft_eq, Nat.pow_add, Nat.mul_assoc]
  split <;> rw [this] <;> push_cast <;> simp [Int.neg_mul]
theorem compare_mul (a b : Int) (c : Nat) (hc : 0 < c) : compare (a * c) (b * c) = compare a b := by
  have hc' : (0 : Int) < c := by omega
  rcases Int.lt_trichotomy a b with h | h | h
  · rw [cmp_lt h, cmp_lt (Int.mul_lt_mul_of_pos_right h hc')]
  · subst h; rw [cmp_eq, cmp_eq]
  · rw [cmp_gt h, cmp_gt (Int.mul_lt_mul_of_pos_right h hc')]
theorem read_bounds (k : FloatKind) {x : Nat} {s : Bool} {m : Nat} {e : Int} (h : k.format.read x = .number s m e) : m < 2 ^ 53 ∧ k.format.leastPlace ≤ e ∧ e - k.format.leastPlace ≤ 2046 := by
  cases k
  · obtain ⟨h1, h2, h3⟩ := single_bounds h
    have e4 : FloatKind.f32.format.leastPlace = -149 := by decide +kernel
    rw [e4]
    exact ⟨Nat.lt_trans h1 (by decide), h2, by omega⟩
  · have e1 : double.signWeight = 9223372036854775808 := by decide +kernel
    have e2 : double.binade = 4503599627370496 := by decide +kernel
    have e3 : double.infRung = 9218868437227405312 := by decide +kernel
    have e4 : FloatKind.f64.format.leastPlace = -1074 := by decide +kernel
    have e5 : double.leastPlace = -1074 := e4
    have h' : double.read x = .number s m e := h
    unfold Format.read at h'
    simp only [e1, e2, e3, e5] at h'
    generalize x % 9223372036854775808 = r at *
    rw [e4]
    have hp : (2 : Nat) ^ 53 = 9007199254740992 := by decide
    rw [hp]
    split at h'
    · injection h' with _ h2 h3; omega
    · split at h'
      · injection h' with _ h2 h3; omega
      · split at h' <;> cases h'
theorem signed_lt (s : Bool) {m a : Nat} (hm : m < 2 ^ 53) (ha : a ≤ 2046) : -farKey < signed s m a ∧ signed s m a < farKey := by
  have hE := farE_gt
  have h : m <<< a < 2 ^ farE := by
    rw [Nat.shiftLeft_eq]
    have h1 : m * 2 ^ a ≤ 2 ^ 53 * 2 ^ a := Nat.mul_le_mul_right _ (Nat.le_of_lt hm)
    exact Nat.lt_of_le_of_lt h1 (by rw [← Nat.pow_add]; exact Nat.pow_lt_pow_right (by decide) (by omega))
  unfold farKey
  generalize (2 : Nat) ^ farE = B at *
  unfold signed
  generalize m <<< a = g at *
  split <;> omega
theorem ford_key {k : FloatKind} {x y : Nat} (hx : isN k x = false) (hy : isN k y = false) : ford k x y = some (compare (fkey k x) (fkey k y)) := by
  unfold isN at hx hy
  unfold ford Format.order fkey
  have hf : (0 : Int) < farKey := by
    have := (signed_lt false (m := 0) (a := 0) (by decide) (by decide)).2
    simpa [signed] using this
  cases hdx : k.format.read x with
  | nan s t => rw [hdx] at hx; simp [Datum.isNaN] at hx
  | infinity s =>
    cases hdy : k.format.read y with
    | nan s t => rw [hdy] at hy; simp [Datum.isNaN] at hy
    | infinity t =>
      simp only [Datum.order, dkey]
      cases s <;> cases t <;> simp
      · exact (cmp_gt (by omega)).symm
      · exact (cmp_lt (by omega)).symm
    | number t n j =>
      obtain ⟨hm, hl, hu⟩ := read_bounds k hdy
      have hb := signed_lt t hm (a := (j - k.format.leastPlace).toNat) (by omega)
      simp only [Datum.order, dkey]
      cases s
      · exact congrArg some (cmp_gt (by simp; omega)).symm
      · exact congrArg some (cmp_lt (by simp; omega)).symm
  | number s m i =>
    obtain ⟨hm, hl, hu⟩ := read_bounds k hdx
    have hb := signed_lt s hm (a := (i - k.format.leastPlace).toNat) (by omega)
    cases hdy : k.format.read y with
    | nan s t => rw [hdy] at hy; simp [Datum.isNaN] at hy
    | infinity t =>
      simp only [Datum.order, dkey]
      cases t
      · exact congrArg some (cmp_lt (by simp; omega)).symm
      · exact congrArg some (cmp_gt (by simp; omega)).symm
    | number t n j =>
      obtain ⟨_, hl', _⟩ := read_bounds k hdy
      simp only [Datum.order, dkey]
      have e1 : (i - k.format.leastPlace).toNat = (i - min i j).toNat + (min i j - k.format.leastPlace).toNat := by omega
      have e2 : (j - k.format.leastPlace).toNat = (j - min i j).toNat + (min i j - k.format.leastPlace).toNat := by omega
      rw [e1, e2, signed_shift, signed_shift, compare_mul _ _ _ (Nat.two_pow_pos _)]

theorem ford_some {k : FloatKind} {x y : Nat} {o : Ordering} (h : ford k x y = some o) : isN k x = false ∧ isN k y = false := by
  constructor
  · cases hx : isN k x
    · rfl
    · rw [ford_nanL y hx] at h; cases h
  · cases hy : isN k y
    · rfl
    · rw [ford_nanR x hy] at h; cases h
theorem ford_lt {k : FloatKind} {x y : Nat} : ford k x y = some .lt ↔ isN k x = false ∧ isN k y = false ∧ fkey k x < fkey k y := by
  constructor
  · intro h
    obtain ⟨hx, hy⟩ := ford_some h
    rw [ford_key hx hy] at h
    exact ⟨hx, hy, Int.compare_eq_lt.1 (Option.some.inj h)⟩
  · rintro ⟨hx, hy, h⟩
    rw [ford_key hx hy, Int.compare_eq_lt.2 h]
theorem ford_gt {k : FloatKind} {x y : Nat} : ford k x y = some .gt ↔ isN k x = false ∧ isN k y = false ∧ fkey k y < fkey k x := by
  constructor
  · intro h
    obtain ⟨hx, hy⟩ := ford_some h
    rw [ford_key hx hy] at h
    exact ⟨hx, hy, Int.compare_eq_gt.1 (Option.some.inj h)⟩
  · rintro ⟨hx, hy, h⟩
    rw [ford_key hx hy, Int.compare_eq_gt.2 h]
theorem ford_eq {k : FloatKind} {x y : Nat} : ford k x y = some .eq ↔ isN k x = false ∧ isN k y = false ∧ fkey k x = fkey k y := by
  constructor
  · intro h
    obtain ⟨hx, hy⟩ := ford_some h
    rw [ford_key hx hy] at h
    exact ⟨hx, hy, Int.compare_eq_eq.1 (Option.some.inj h)⟩
  · rintro ⟨hx, hy, h⟩
    rw [ford_key hx hy, Int.compare_eq_eq.2 h]
theorem ford_none {k : FloatKind} {x y : Nat} : ford k x y = none ↔ isN k x = true ∨ isN k y = true := by
  constructor
  · intro h
    cases hx : isN k x
    · cases hy : isN k y
      · rw [ford_key hx hy] at h; cases h
      · exact .inr rfl
    · exact .inl rfl
  · rintro (h | h)
    · exact ford_nanL y h
    · exact ford_nanR x h
end

section
variable (P : Program) (w : World) (a : Addr) (m : Mode)
@[go_sem] theorem run_store_float (k : FloatKind) (b : Nat) : (store a (.float k b) m).run P w = stored P w a (.float k b) m := run_store P w a _ m rfl
@[go_sem] theorem run_store_complex (k : FloatKind) (b c : Nat) : (store a (.complex k b c) m).run P w = stored P w a (.complex k b c) m := run_store P w a _ m rfl
end
end Go.Proofs.Ytamgekijihpgkaa
