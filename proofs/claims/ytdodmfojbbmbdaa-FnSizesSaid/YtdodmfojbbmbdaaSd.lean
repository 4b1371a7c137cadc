/- The law's last test: what it computes on a pair of drawn maps is nothing. -/
import Derived.Test.YtdodmfojbbmbdaaSc
import Derived.Laws.ComplexArith
namespace Go.Proofs.Ytdodmfojbbmbdaa
open Go.RowKit Ieee

theorem run_conv {P : Program} (w : World) {s k : FloatKind} {b r : Nat} (hk : s ≠ k) (h : floatToFloatBits s b k = some r) : (Op.Complex.conv s b k).run P w = .ok r w := by
  simp [Op.Complex.conv, hk, run_floatToFloat w h]
theorem run_cmul32 {P : Program} (w : World) (t : TypeId) {a b c d A B C D ac bd re ad bc im r i : Nat} (ha : floatToFloatBits .f32 a .f64 = some A) (hb : floatToFloatBits .f32 b .f64 = some B) (hc : floatToFloatBits .f32 c .f64 = some C) (hd : floatToFloatBits .f32 d .f64 = some D)
    (h1 : floatBits .mul .f64 A C = some ac) (h2 : floatBits .mul .f64 B D = some bd) (h3 : floatBits .sub .f64 ac bd = some re) (h4 : floatBits .mul .f64 A D = some ad) (h5 : floatBits .mul .f64 B C = some bc) (h6 : floatBits .add .f64 ad bc = some im)
    (hr : floatToFloatBits .f64 re .f32 = some r) (hi : floatToFloatBits .f64 im .f32 = some i) : (binOp .mul t (.complex .f32 a b) (.complex .f32 c d)).run P w = .ok (.complex .f32 r i) w := by
  simp [binOp, Op.complexOp, run_conv _ _ ha, run_conv _ _ hb, run_conv _ _ hc, run_conv _ _ hd, Op.Complex.product, Op.Complex.mul, Op.Complex.sub, Op.Complex.add, run_carith w h1, run_carith w h2, run_carith w h3, run_carith w h4, run_carith w h5, run_carith w h6, run_conv _ _ hr, run_conv _ _ hi]
/-- q64 k, or nothing. -/
def Lk (r : Nat) (k : Int) : Prop := r = q64 k ∨ (isZ r = true ∧ k = 0)
theorem i9 {x : Int} (h1 : -8 ≤ x) (h2 : x ≤ 8) : ∃ n : Nat, n < 17 ∧ x = (n : Int) - 8 := ⟨(x + 8).toNat, by omega, by omega⟩
theorem isZ64_of {x : Nat} (h : isZ64 x = true) : x ∈ [0, 9223372036854775808] := by
  unfold isZ64 at h
  simp at h
  simp
  exact h
theorem cB_of {x y : Int} {s : Nat} (hx1 : -8 ≤ x) (hx2 : x ≤ 8) (hy1 : -8 ≤ y) (hy2 : y ≤ 8) (hs : s < 9) : cB (pM (q8 x) (q8 (s : Int))) (pZ (q8 y)) (x * s) = true ∧ floatBits .mul .f64 (c64 (q8 x)) (c64 (q8 (s : Int))) = some (pM (q8 x) (q8 (s : Int))) ∧ floatBits .mul .f64 (c64 (q8 y)) (c64 0) = some (pZ (q8 y)) ∧
    floatToFloatBits .f32 (q8 x) .f64 = some (c64 (q8 x)) := by
  obtain ⟨n, hn, rfl⟩ := i9 hx1 hx2
  obtain ⟨m, hm, rfl⟩ := i9 hy1 hy2
  have A := c_a n hn s hs
  have B := c_b m hm
  have W := c_w n hn
  rw [Bool.and_eq_true, beq_iff_eq] at A B
  rw [beq_iff_eq] at W
  refine ⟨?_, A.1, B.1, W⟩
  have hz := isZ64_of B.2
  have hk := A.2
  rw [Bool.or_eq_true, beq_iff_eq, Bool.and_eq_true, decide_eq_true_eq] at hk
  rcases hk with hk | ⟨h1, h2⟩
  · rw [hk]
    have b1 : -64 ≤ ((n : Int) - 8) * s := by
      have : -8 * (s : Int) ≤ ((n : Int) - 8) * s := Int.mul_le_mul_of_nonneg_right hx1 (by omega)
      omega
    have b2 : ((n : Int) - 8) * s ≤ 64 := by
      have : ((n : Int) - 8) * s ≤ 8 * s := Int.mul_le_mul_of_nonneg_right hx2 (by omega)
      omega
    generalize ((n : Int) - 8) * s = k at *
    have C := c_c (k + 64).toNat (by omega)
    rw [show (((k + 64).toNat : Nat) : Int) - 64 = k by omega, Bool.and_eq_true] at C
    rcases List.mem_cons.1 hz with e | e
    · rw [e]; exact C.1
    · rw [List.mem_singleton.1 e]; exact C.2
  · rw [h2]
    exact c_c0 _ (isZ64_of h1) _ hz
theorem prod_ok {P : Program} {x y : Int} {s : Nat} (hx1 : -8 ≤ x) (hx2 : x ≤ 8) (hy1 : -8 ≤ y) (hy2 : y ≤ 8) (hs : s < 9) :
    ∃ r i, (∀ w t, (binOp .mul t (.complex .f32 (q8 x) (q8 y)) (.complex .f32 (q8 (s : Int)) 0)).run P w = .ok (.complex .f32 r i) w) ∧ Lk r (x * s) ∧ Lk i (y * s) := by
  obtain ⟨b1, m1, z1, w1⟩ := cB_of hx1 hx2 hy1 hy2 hs
  obtain ⟨b2, m2, z2, w2⟩ := cB_of hy1 hy2 hx1 hx2 hs
  have w3 : floatToFloatBits .f32 (q8 (s : Int)) .f64 = some (c64 (q8 (s : Int))) := (cB_of (x := (s : Int)) (by omega) (by omega) hy1 hy2 hs).2.2.2
  unfold cB at b1 b2
  simp only [Bool.and_eq_true, Bool.or_eq_true, beq_iff_eq, decide_eq_true_eq] at b1 b2
  exact ⟨_, _, fun w t => run_cmul32 w t w1 w2 w3 c_w0 m1 z1 b1.1.1.1.1.1 z2 m2 b2.1.1.1.1.2 b1.1.1.1.2 b2.1.1.2, b1.1.2, b2.2⟩
theorem isZ_of {x : Nat} (h : isZ x = true) : x = 0 ∨ x = 2147483648 := by
  unfold isZ at h
  simp at h
  exact h
theorem part_ok {a b s r : Nat} (ha : a < 9) (hb : b < 9) (hs : s < 9) (h : Lk r (((b : Int) - a) * s)) : dB (q8 ((a : Int) - 4)) (q8 ((b : Int) - 4)) (q8 (s : Int)) r = true := by
  rcases h with rfl | ⟨h1, h2⟩
  · exact c_d a ha b hb s hs
  · have D := c_d0 a ha b hb s hs
    rw [h2] at D
    rw [Bool.or_eq_true, Bool.and_eq_true] at D
    rcases D with D | D
    · simp at D
    · rcases isZ_of h1 with rfl | rfl
      · exact D.1
      · exact D.2
/-- What the last test computes. -/
def LastF (P : Program) (s : Nat) (S T : SmV) : Prop := ∃ d1 d2 p1 p2 a1 a2 u1 u2 v1 v2,
  (∀ w t, (binOp .sub t (.complex .f32 T.tr T.ti) (.complex .f32 S.tr S.ti)).run P w = .ok (.complex .f32 d1 d2) w) ∧
  (∀ w t, (binOp .mul t (.complex .f32 d1 d2) (.complex .f32 (q8 (s : Int)) 0)).run P w = .ok (.complex .f32 p1 p2) w) ∧
  (∀ w t, (binOp .add t (.complex .f32 S.tr S.ti) (.complex .f32 p1 p2)).run P w = .ok (.complex .f32 a1 a2) w) ∧
  (∀ w t, (binOp .sub t (.complex .f32 (mixV S.tr T.tr (q8 (s : Int))) (mixV S.ti T.ti (q8 (s : Int)))) (.complex .f32 a1 a2)).run P w = .ok (.complex .f32 u1 u2) w) ∧
  (∀ w t, (binOp .sub t (.complex .f32 (mixV S.sr T.sr 0) (mixV S.si T.si 0)) (.complex .f32 S.sr S.si)).run P w = .ok (.complex .f32 v1 v2) w) ∧
  isZ u1 = true ∧ isZ u2 = true ∧ isZ v1 = true ∧ isZ v2 = true
theorem cS_of {op : BinOp} {k : FloatKind} {a b c d x y : Nat} (h1 : floatBits op k a c = some x) (h2 : floatBits op k b d = some y) : cSumBits op k a b c d = some (x, y) := by
  simp [cSumBits, h1, h2]
theorem last_ok (P : Program) {s n : Nat} {S T : SmV} (hs : s < 9) (D : DPair S T n) : LastF P s S T := by
  obtain ⟨i, hi, ei⟩ := D.a.tr
  obtain ⟨i', hi', ei'⟩ := D.b.tr
  obtain ⟨j, hj, ej⟩ := D.a.ti
  obtain ⟨j', hj', ej'⟩ := D.b.ti
  obtain ⟨k, hk, ek⟩ := D.a.sr
  obtain ⟨k', hk', ek'⟩ := D.b.sr
  obtain ⟨l, hl, el⟩ := D.a.si
  obtain ⟨l', hl', el'⟩ := D.b.si
  have f1 := c_e (i + 5) (by omega) (i' + 5) (by omega)
  have f2 := c_e j hj j' hj'
  obtain ⟨r, q, hp, l1, l2⟩ := prod_ok (P := P) (x := ((i' + 5 : Nat) : Int) - ((i + 5 : Nat) : Int)) (y := (j' : Int) - j) (s := s) (by omega) (by omega) (by omega) (by omega) hs
  have d1 := part_ok (by omega) (by omega) hs l1
  have d2 := part_ok hj hj' hs l2
  have s1 := c_s k hk k' hk'
  have s2 := c_s l hl l' hl'
  unfold dB at d1 d2
  unfold sB at s1 s2
  simp only [Bool.and_eq_true, beq_iff_eq] at d1 d2 s1 s2
  have e1 : ((i + 5 : Nat) : Int) - 4 = (i : Int) + 1 := by omega
  have e2 : ((i' + 5 : Nat) : Int) - 4 = (i' : Int) + 1 := by omega
  rw [e1, e2] at f1 d1
  rw [← ei, ← ei'] at f1 d1
  rw [← ej, ← ej'] at f2 d2
  rw [← ek, ← ek'] at s1
  rw [← el, ← el'] at s2
  refine ⟨_, _, r, q, _, _, _, _, _, _, fun w t => run_complex_sum w .sub (.inr rfl) t .f32 _ _ _ _ _ _ (cS_of f1 f2), hp, fun w t => run_complex_sum w .add (.inl rfl) t .f32 _ _ _ _ _ _ (cS_of d1.1.1 d2.1.1),
    fun w t => run_complex_sum w .sub (.inr rfl) t .f32 _ _ _ _ _ _ (cS_of d1.1.2 d2.1.2), fun w t => run_complex_sum w .sub (.inr rfl) t .f32 _ _ _ _ _ _ (cS_of s1.1 s2.1), d1.2, d2.2, s1.2, s2.2⟩
theorem q80 : q8 ((0 : Nat) : Int) = 0 := by decide +kernel
theorem d_s : ∀ s, s < 9 → floatBits .quo .f32 (floatOfInt .f32 ((s : Nat) : Int)) 1090519040 = some (q8 ((s : Nat) : Int)) := by decide +kernel
/-- What the law's two calls of MixSmalls want. -/
structure MixF (s : Nat) (Ss Os : List SmV) : Prop where
  ln : Ss.length = Os.length
  sw : shareB s = true
  mx : ∀ i (h1 : i < Ss.length) (h2 : i < Os.length), MxS s Ss[i] Os[i]
  ls : SmL Ss (uN Ss.length)
  lo : SmL Os (uN Ss.length)
  lx : SmL (mixL s Ss Os) (uN Ss.length)
theorem mixF_of {Ss : List SmV} (h : ∀ S ∈ Ss, DSm S Ss.length) (h6 : Ss.length < 6) (h0 : 0 < Ss.length) {s : Nat} (hs9 : s < 9) : MixF (q8 (s : Int)) Ss (othL Ss Ss.length) :=
  ⟨by rw [othL_len], m_s s hs9, mix_all h h6 h0 hs9, DSm.smL h h6 h0, oth_smL h h6 h0, mix_smL h h6 h0 hs9⟩
theorem mixF_0 {Ss : List SmV} (h : ∀ S ∈ Ss, DSm S Ss.length) (h6 : Ss.length < 6) (h0 : 0 < Ss.length) : MixF 0 Ss (othL Ss Ss.length) := by
  have := mixF_of h h6 h0 (s := 0) (by omega)
  rw [q80] at this
  exact this
theorem mixL_len {s n : Nat} {Ss Os : List SmV} (h1 : Ss.length = n) (h2 : Os.length = n) : (mixL s Ss Os).length = n := by
  unfold mixL
  rw [List.length_zipWith]
  omega
theorem mixL_get {s i : Nat} {Ss Os : List SmV} {S T : SmV} (h1 : Ss[i]? = some S) (h2 : Os[i]? = some T) : (mixL s Ss Os)[i]? = some (mixS s S T) := by
  unfold mixL
  rw [List.getElem?_zipWith, h1, h2]
/-- The length of nothing. -/
theorem nil_long {a b : Nat} (ha : isZ a = true) (hb : isZ b = true) : lgB a b = true ∧ lgV a b = 0 := by
  have h := zero_long a (by rcases isZ_of ha with rfl | rfl <;> simp) b (by rcases isZ_of hb with rfl | rfl <;> simp)
  rw [Bool.and_eq_true, beq_iff_eq] at h
  exact h
end Go.Proofs.Ytdodmfojbbmbdaa
