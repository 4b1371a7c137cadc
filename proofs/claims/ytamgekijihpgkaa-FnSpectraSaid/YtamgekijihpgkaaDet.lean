/- Operations on numbers that are not too great: no NaN, nothing drawn. Plain: nothing of the dump. -/
import Derived.Test.YtamgekijihpgkaaMa
namespace Go.Proofs.Ytamgekijihpgkaa
open Ieee

/-- The word reads as a number that is at most 2 to the power of R - bias. -/
def Sm (k : FloatKind) (b R : Nat) : Prop := ∃ s m e, k.format.read b = .number s m e ∧ e ≤ (R : Int) - bias k ∧ m ≤ 2 ^ ((R : Int) - bias k - e).toNat
theorem Up.sm {k : FloatKind} {b R : Nat} (h : Up k b R) (h1 : 1 ≤ R) (hT : R ≤ 2 * bias k) : Sm k b R := by
  obtain ⟨s, m, e, a, b, c, _⟩ := h.read h1 hT
  exact ⟨s, m, e, a, b, c⟩
theorem Sm.weak {k : FloatKind} {b R R' : Nat} (h : Sm k b R) (hR : R ≤ R') : Sm k b R' := by
  obtain ⟨s, m, e, a, b, c⟩ := h
  exact ⟨s, m, e, a, by omega, Nat.le_trans c (Nat.pow_le_pow_right (by decide) (by omega))⟩
theorem Sm.num {k : FloatKind} {b R : Nat} (h : Sm k b R) : isN k b = false := by
  obtain ⟨s, m, e, a, _⟩ := h
  unfold isN; rw [a]; rfl
theorem Sm.cn {k : FloatKind} {b R : Nat} (h : Sm k b R) : cn k b = b := cn_of_not h.num
/-- What is known of an operation's result. -/
structure Det (op : BinOp) (k : FloatKind) (x y R : Nat) : Prop where
  res : ∀ w, fres op k x y w = fop op k x y
  dr : fdr op k x y = 0
  up : Up k (fop op k x y) R
theorem det_of {op : BinOp} {k : FloatKind} {x y R : Nat} {d : Datum} (h : floatBits op k x y = some (k.format.write d)) (hd : d.isNaN = false) (hu : Up k (k.format.write d) R) : Det op k x y R := by
  have hf := fop_of h hd
  refine ⟨fun w => ?_, ?_, by rw [hf]; exact hu⟩
  · unfold fres; rw [h, hf]
  · unfold fdr; rw [h]
theorem det_sub {k : FloatKind} {x y R : Nat} (hx : Sm k x R) (hy : Sm k y R) (h : 1 ≤ R) : Det .sub k x y (R + 1) := by
  obtain ⟨s, m, e, rx, be, bm⟩ := hx
  obtain ⟨t, n, j, ry, bj, bn⟩ := hy
  obtain ⟨d, hd, hn, hu⟩ := up_sum (s := s) (t := !t) h be bj bm bn
  exact det_of (by simp [floatBits, Format.sub, rx, ry, hd, Datum.opposite]) hn hu
theorem det_add {k : FloatKind} {x y R : Nat} (hx : Sm k x R) (hy : Sm k y R) (h : 1 ≤ R) : Det .add k x y (R + 1) := by
  obtain ⟨s, m, e, rx, be, bm⟩ := hx
  obtain ⟨t, n, j, ry, bj, bn⟩ := hy
  obtain ⟨d, hd, hn, hu⟩ := up_sum (s := s) (t := t) h be bj bm bn
  exact det_of (by simp [floatBits, Format.add, rx, ry, hd]) hn hu
theorem det_mul {k : FloatKind} {x y R1 R2 R : Nat} (hx : Sm k x R1) (hy : Sm k y R2) (hR : R + bias k = R1 + R2) (h0 : 1 ≤ R) : Det .mul k x y R := by
  obtain ⟨s, m, e, rx, be, bm⟩ := hx
  obtain ⟨t, n, j, ry, bj, bn⟩ := hy
  obtain ⟨r, hr, hb, _⟩ := nearest_up k (s ^^ t) (m := m * n) (e := e + j) (E := (R : Int) - bias k) h0 rfl (by omega) (by
    have : 2 ^ ((R : Int) - bias k - (e + j)).toNat = 2 ^ ((R1 : Int) - bias k - e).toNat * 2 ^ ((R2 : Int) - bias k - j).toNat := by rw [← Nat.pow_add]; congr 1 <;> omega
    rw [this]
    exact Nat.mul_le_mul bm bn)
  exact det_of (d := .number (s ^^ t) (m * n) (e + j)) (by simp [floatBits, Format.mul, rx, ry, Datum.product]) rfl ⟨_, r, hr, hb⟩
theorem bias32 : bias .f32 = 127 := rfl
theorem sm_place {x : Nat} (hn : isN .f32 x = false) (h0 : 0 ≤ fkey .f32 x) (h1 : fkey .f32 x ≤ ((1000 * 2 ^ 149 : Nat) : Int)) : Sm .f32 x 137 := by
  cases hr : single.read x with
  | nan s t => unfold isN at hn; rw [show FloatKind.f32.format.read x = .nan s t from hr] at hn; simp [Datum.isNaN] at hn
  | infinity s =>
    exfalso
    have hk : fkey .f32 x = if s then -farKey else farKey := by
      show dkey single.leastPlace (single.read x) = _
      rw [hr]; rfl
    have hE := farE_gt
    have hbig : ((1000 * 2 ^ 149 : Nat) : Int) < farKey := by
      unfold farKey
      have : 1000 * 2 ^ 149 < 2 ^ 10 * 2 ^ 149 := Nat.mul_lt_mul_of_pos_right (by decide) (Nat.two_pow_pos _)
      have h2 : 2 ^ 10 * 2 ^ 149 ≤ 2 ^ farE := by rw [← Nat.pow_add]; exact Nat.pow_le_pow_right (by decide) (by omega)
      exact Int.ofNat_lt.2 (Nat.lt_of_lt_of_le this h2)
    rw [hk] at h0 h1
    generalize farKey = F at *
    cases s <;> simp at h0 h1 <;> omega
  | number s m e =>
    obtain ⟨hm, he1, he2⟩ := single_bounds hr
    have e4 : single.leastPlace = -149 := by decide +kernel
    have hk : fkey .f32 x = signed s m (e + 149).toNat := by
      show dkey single.leastPlace (single.read x) = _
      rw [hr, e4]
      show signed s m (e - -149).toNat = _
      rw [show e - -149 = e + 149 by omega]
    rw [hk] at h0 h1
    have habs := signed_abs s m (e + 149).toNat
    have hle : m * 2 ^ (e + 149).toNat ≤ 1000 * 2 ^ 149 := by
      rw [Nat.shiftLeft_eq] at habs
      generalize m * 2 ^ (e + 149).toNat = u at *
      generalize 1000 * 2 ^ 149 = v at *
      omega
    have h10 : 1000 * 2 ^ 149 < 2 ^ 159 := by
      have : 2 ^ 159 = 2 ^ 10 * 2 ^ 149 := by rw [← Nat.pow_add]
      rw [this]
      exact Nat.mul_lt_mul_of_pos_right (by decide) (Nat.two_pow_pos _)
    by_cases hm0 : m = 0
    · subst hm0
      have he : e = -149 := by
        have hB := binade_pos single
        unfold Format.read at hr
        dsimp only at hr
        split at hr
        · injection hr with _ _ h3; rw [← h3, e4]
        · split at hr
          · injection hr with _ h2 _; omega
          · split at hr <;> cases hr
      exact ⟨s, 0, e, hr, by rw [bias32]; omega, Nat.zero_le _⟩
    · have he10 : e ≤ 10 := by
        rcases Int.lt_or_le 10 e with h | h
        · exfalso
          have h2 : 2 ^ 159 ≤ 2 ^ (e + 149).toNat := Nat.pow_le_pow_right (by decide) (by omega)
          have h3 : 1 * 2 ^ (e + 149).toNat ≤ m * 2 ^ (e + 149).toNat := Nat.mul_le_mul_right _ (by omega)
          omega
        · exact h
      refine ⟨s, m, e, hr, by rw [bias32]; omega, ?_⟩
      rw [bias32]
      apply Nat.le_of_mul_le_mul_right (c := 2 ^ (e + 149).toNat) _ (Nat.two_pow_pos _)
      rw [← Nat.pow_add, show (((137 : Nat) : Int) - ((127 : Nat) : Int) - e).toNat + (e + 149).toNat = 159 by omega]
      omega
end Go.Proofs.Ytamgekijihpgkaa
