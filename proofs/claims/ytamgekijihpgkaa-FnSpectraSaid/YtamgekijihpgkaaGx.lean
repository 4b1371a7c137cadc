/- The program's exponential is the series', nearly. -/
import Derived.Test.YtamgekijihpgkaaGq
import Derived.Test.YtamgekijihpgkaaEw
namespace Go.Proofs.Ytamgekijihpgkaa
open Go.RowKit Ieee

def isFb (k : FloatKind) (x : Nat) : Bool := match k.format.read x with | .number _ _ e => decide (k.format.leastPlace ≤ e) | _ => false
theorem isF_of {k : FloatKind} {x : Nat} (h : isFb k x = true) : isF k x := by
  unfold isFb at h
  cases hr : k.format.read x with
  | number s m e => rw [hr] at h; exact ⟨s, m, e, hr, of_decide_eq_true h⟩
  | infinity s => rw [hr] at h; cases h
  | nan s t => rw [hr] at h; cases h
theorem constF {k : FloatKind} {x : Nat} {v : Rat} (h : (isFb k x && decide (rv k x = v)) = true) : isF k x ∧ rv k x = v := by
  rw [Bool.and_eq_true] at h
  exact ⟨isF_of h.1, of_decide_eq_true h.2⟩
theorem k256_val : isF .f64 4643211215818981376 ∧ rv .f64 4643211215818981376 = 256 := constF (by decide +kernel)
theorem kO_val : isF .f64 kO ∧ rv .f64 kO = 1 := constF (by decide +kernel)
theorem kj_val : ∀ j : Nat, j < 12 → (isFb .f64 (floatOfInt .f64 (12 - (j : Int))) && decide (rv .f64 (floatOfInt .f64 (12 - (j : Int))) = gK j)) = true := by decide +kernel
/-- The small units. -/
theorem ulp64 : ulp .f64 = 1 / 9007199254740992 := by decide +kernel
theorem eta64 : 0 < eta .f64 ∧ eta .f64 ≤ ulp .f64 / 1000 := by decide +kernel
theorem u64 : 0 ≤ ulp .f64 ∧ 1000000000000000 * ulp .f64 ≤ 1 ∧ 0 ≤ eta .f64 ∧ 1000 * eta .f64 ≤ ulp .f64 := by decide +kernel
theorem ulp32 : ulp .f32 = 1 / 16777216 := by decide +kernel
theorem u32 : 0 ≤ ulp .f32 ∧ 16777216 * ulp .f32 = 1 ∧ 0 ≤ eta .f32 ∧ 1000000000000 * eta .f32 ≤ 1 := by decide +kernel
theorem eta32 : 0 < eta .f32 ∧ eta .f32 ≤ ulp .f64 / 1000 := by decide +kernel
theorem big64 : (1000000 : Rat) ≤ (2 : Rat) ^ (bias .f64 : Int) := by decide +kernel
theorem big32 : (1000000 : Rat) ≤ (2 : Rat) ^ (bias .f32 : Int) := by decide +kernel
theorem ab_sub_le {a b e : Rat} (h1 : a - b ≤ e) (h2 : b - a ≤ e) : ab (a - b) ≤ e := ab_le h1 (by grind)
theorem ab_both {a e : Rat} (h : ab a ≤ e) : a ≤ e ∧ -e ≤ a := by
  have h1 := le_ab a
  have h2 := neg_le_ab a
  constructor <;> grind
theorem exT_near {x : Nat} (hx : isF .f64 x) (h0 : -32 ≤ rv .f64 x) (h1 : rv .f64 x ≤ 0) : isF .f64 (exT x) ∧ ab (rv .f64 (exT x) - rv .f64 x / 256) ≤ ulp .f64 := by
  obtain ⟨c1, c2⟩ := k256_val
  have hb : ab (rv .f64 x / 256) ≤ 1 / 8 := ab_le (by grind) (by grind)
  have Q := op_quo hx c1 (v := rv .f64 x / 256) (by rw [c2]; decide +kernel) (by rw [c2]; grind) (by have := big64; grind)
  obtain ⟨u0, u1, v0, v1⟩ := u64
  have m := Rat.mul_le_mul_of_nonneg_right hb u0
  refine ⟨Q.fin, ab_sub_le ?_ ?_⟩
  · have := Q.up; unfold exT; grind
  · have := Q.lo; unfold exT; grind
/-- A product of what is nearly this and nearly that. -/
theorem prod_err {a A b B x y α β : Rat} (h1 : ab (a - A) ≤ x) (h2 : ab (b - B) ≤ y) (h3 : ab A ≤ α) (h4 : ab b ≤ β) : ab (a * b - A * B) ≤ x * β + α * y := by
  have e : a * b - A * B = (a - A) * b + A * (b - B) := by grind
  rw [e]
  exact Rat.le_trans (ab_add _ _) (by have := mul_sm h1 h4; have := mul_sm h3 h2; grind)
theorem exP_near {t : Nat} {τ : Rat} (ht : isF .f64 t) (h0 : -1 / 8 ≤ τ) (h1 : τ ≤ 0) (h : ab (rv .f64 t - τ) ≤ ulp .f64) : ∀ j, j ≤ 12 → isF .f64 (exP t j) ∧ ab (rv .f64 (exP t j) - gP τ j) ≤ 7 * ulp .f64
  | 0, _ => by
    obtain ⟨c1, c2⟩ := kO_val
    refine ⟨c1, ?_⟩
    show ab (rv .f64 kO - 1) ≤ _
    rw [c2, ulp64]
    decide +kernel
  | j + 1, hj => by
    obtain ⟨p1, p2⟩ := exP_near ht h0 h1 h j (by omega)
    obtain ⟨b1, b2⟩ := gP_bd h0 h1 j (by omega)
    obtain ⟨c1, c2⟩ := kO_val
    obtain ⟨d1, d2⟩ := constF (kj_val j (by omega))
    have hk := gK_ge (j := j) (by omega)
    obtain ⟨hu0, hu1, v0, v1⟩ := u64
    obtain ⟨u, hu'⟩ : ∃ u, u = ulp .f64 := ⟨_, rfl⟩
    rw [← hu'] at hu0 hu1 v1 p2 h ⊢
    obtain ⟨p, hp⟩ : ∃ p, p = rv .f64 (exP t j) := ⟨_, rfl⟩
    obtain ⟨T, hT⟩ : ∃ T, T = rv .f64 t := ⟨_, rfl⟩
    rw [← hp] at p2
    rw [← hT] at h
    have bp : ab p ≤ 2 := by
      obtain ⟨a, b⟩ := ab_both p2
      apply ab_le <;> grind
    have bτ : ab τ ≤ 1 / 8 := ab_le (by grind) (by grind)
    have bT : ab T ≤ 1 / 4 := by
      obtain ⟨a, b⟩ := ab_both h
      apply ab_le <;> grind
    have e1 := prod_err h p2 bτ bp
    have bTp := mul_sm bT bp
    have M := op_mul ht p1 (by rw [← hT, ← hp]; have := big64; grind)
    rw [← hT, ← hp] at M
    obtain ⟨m, hm⟩ : ∃ m, m = rv .f64 (fop .mul .f64 t (exP t j)) := ⟨_, rfl⟩
    have mu := M.near.up
    have ml := M.near.lo
    rw [← hm, ← hu'] at mu ml
    have f1 := Rat.mul_le_mul_of_nonneg_right bTp hu0
    -- m is near to the product
    have e2 : ab (m - τ * gP τ j) ≤ 7 / 2 * u := by
      obtain ⟨x1, x2⟩ := ab_both e1
      apply ab_le <;> grind
    have bτP := mul_sm bτ (show ab (gP τ j) ≤ 1 from ab_le b2 (by grind))
    have bm : ab m ≤ 1 / 4 := by
      obtain ⟨x1, x2⟩ := ab_both e2
      obtain ⟨y1, y2⟩ := ab_both bτP
      apply ab_le <;> grind
    have bv : ab (m / gK j) ≤ 1 / 4 := by
      obtain ⟨x1, x2⟩ := ab_both bm
      obtain ⟨y1, y2⟩ := div_sm hk x1 x2
      exact ab_le y1 (by grind)
    have hk0 : gK j ≠ 0 := by grind
    have Q := op_quo M.near.fin d1 (v := m / gK j) (by rw [d2]; exact hk0) (by rw [d2, ← hm]; exact Rat.div_mul_cancel hk0) (by have := big64; grind)
    obtain ⟨q, hq⟩ : ∃ q, q = rv .f64 (fop .quo .f64 (fop .mul .f64 t (exP t j)) (floatOfInt .f64 (12 - (j : Int)))) := ⟨_, rfl⟩
    have qu := Q.up
    have ql := Q.lo
    rw [← hq, ← hu'] at qu ql
    have f2 := Rat.mul_le_mul_of_nonneg_right bv hu0
    obtain ⟨w, hw⟩ : ∃ w, w = τ * gP τ j / gK j := ⟨_, rfl⟩
    have e3 : m / gK j - w ≤ 7 / 2 * u ∧ -(7 / 2 * u) ≤ m / gK j - w := by
      have : m / gK j - w = (m - τ * gP τ j) / gK j := by rw [hw]; grind
      rw [this]
      obtain ⟨x1, x2⟩ := ab_both e2
      exact div_sm hk x1 x2
    have bw : w ≤ 1 / 8 ∧ -(1 / 8) ≤ w := by
      rw [hw]
      obtain ⟨y1, y2⟩ := ab_both bτP
      exact div_sm hk (by grind) (by grind)
    have b1q : ab (1 + q) ≤ 5 / 4 := by apply ab_le <;> grind
    have A := op_add c1 Q.fin (by rw [c2, ← hq]; have := big64; grind)
    rw [c2, ← hq] at A
    have au := A.near.up
    have al := A.near.lo
    rw [← hu'] at au al
    have f3 := Rat.mul_le_mul_of_nonneg_right b1q hu0
    refine ⟨A.near.fin, ?_⟩
    show ab (rv .f64 (fop .add .f64 kO (fop .quo .f64 (fop .mul .f64 t (exP t j)) (floatOfInt .f64 (12 - (j : Int))))) - (1 + τ * gP τ j / gK j)) ≤ 7 * u
    rw [← hw]
    apply ab_le <;> grind
theorem exS_near {p : Nat} {P e : Rat} (hp : isF .f64 p) (h0 : 0 ≤ P) (h1 : P ≤ 1) (he : 0 ≤ e) (hl : e ≤ 1 / 1000000) (h : ab (rv .f64 p - P) ≤ e) : ∀ j, j ≤ 8 → isF .f64 (exS p j) ∧ ab (rv .f64 (exS p j) - gS P j) ≤ ((4 ^ j : Nat) : Rat) * (e + ulp .f64)
  | 0, _ => by
    refine ⟨hp, ?_⟩
    have : ((4 ^ 0 : Nat) : Rat) = 1 := rfl
    have hu := u64.1
    show ab (rv .f64 p - P) ≤ _
    rw [this]
    grind
  | j + 1, hj => by
    obtain ⟨p1, p2⟩ := exS_near hp h0 h1 he hl h j (by omega)
    obtain ⟨b1, b2⟩ := gS_bd h0 h1 j
    obtain ⟨hu0, hu1, v0, v1⟩ := u64
    obtain ⟨u, hu'⟩ : ∃ u, u = ulp .f64 := ⟨_, rfl⟩
    rw [← hu'] at hu0 hu1 v1 p2 ⊢
    have c1 : (1 : Rat) ≤ ((4 ^ j : Nat) : Rat) := by exact_mod_cast Nat.one_le_pow _ _ (by decide)
    have c2 : ((4 ^ j : Nat) : Rat) ≤ 65536 := by
      have : 4 ^ j ≤ 4 ^ 8 := Nat.pow_le_pow_right (by decide) (by omega)
      exact Rat.natCast_le_natCast.2 this
    have e4 : ((4 ^ (j + 1) : Nat) : Rat) = ((4 ^ j : Nat) : Rat) * 4 := by rw [Nat.pow_succ, Rat.natCast_mul]; rfl
    obtain ⟨c, hc⟩ : ∃ c, c = ((4 ^ j : Nat) : Rat) := ⟨_, rfl⟩
    rw [← hc] at c1 c2 e4 p2
    obtain ⟨s, hs⟩ : ∃ s, s = c * (e + u) := ⟨_, rfl⟩
    have s1 : e + u ≤ s := by
      have := Rat.mul_le_mul_of_nonneg_right c1 (show 0 ≤ e + u by grind)
      grind
    have s2 : s ≤ 1 / 10 := by
      have := Rat.mul_le_mul_of_nonneg_right c2 (show 0 ≤ e + u by grind)
      grind
    rw [← hs] at p2
    obtain ⟨q, hq⟩ : ∃ q, q = rv .f64 (exS p j) := ⟨_, rfl⟩
    obtain ⟨Q, hQ⟩ : ∃ Q, Q = gS P j := ⟨_, rfl⟩
    rw [← hq, ← hQ] at p2
    rw [← hQ] at b1 b2
    obtain ⟨y1, y2⟩ := ab_both p2
    have bq : ab q ≤ 11 / 10 := by apply ab_le <;> grind
    have bQ : ab Q ≤ 1 := ab_le b2 (by grind)
    have e1 := prod_err p2 p2 bQ bq
    have bqq := mul_sm bq bq
    have M := op_mul p1 p1 (by rw [← hq]; have := big64; grind)
    rw [← hq] at M
    have mu := M.near.up
    have ml := M.near.lo
    rw [← hu'] at mu ml
    have f1 := Rat.mul_le_mul_of_nonneg_right bqq hu0
    refine ⟨M.near.fin, ?_⟩
    show ab (rv .f64 (fop .mul .f64 (exS p j) (exS p j)) - gS P j * gS P j) ≤ ((4 ^ (j + 1) : Nat) : Rat) * (e + u)
    have e5 : ((4 ^ (j + 1) : Nat) : Rat) * (e + u) = 4 * s := by rw [e4, hs]; grind
    rw [← hQ, e5]
    obtain ⟨x1, x2⟩ := ab_both e1
    apply ab_le <;> grind
/-- The program's exponential. -/
theorem exN_near {x : Nat} (hx : isF .f32 x) (h0 : -32 ≤ rv .f32 x) (h1 : rv .f32 x ≤ 0) : isF .f32 (exN x) ∧ ab (rv .f32 (exN x) - gE (rv .f32 x)) ≤ 1 / 8388608 := by
  obtain ⟨w1, w2⟩ := wide_val hx
  have ew : wd x = c64 x := by unfold wd c64; rw [hx.num]; rfl
  rw [← w2] at h0 h1 ⊢
  obtain ⟨t1, t2⟩ := exT_near w1 h0 h1
  obtain ⟨p1, p2⟩ := exP_near (τ := rv .f64 (c64 x) / 256) t1 (by grind) (by grind) t2 12 (by decide)
  obtain ⟨g1, g2⟩ := gP_bd (t := rv .f64 (c64 x) / 256) (by grind) (by grind) 12 (by decide)
  obtain ⟨hu0, hu1, v0, v1⟩ := u64
  obtain ⟨s1, s2⟩ := exS_near (e := 7 * ulp .f64) p1 (by grind) g2 (by grind) (by grind) p2 8 (by decide)
  have e8 : ((4 ^ 8 : Nat) : Rat) = 65536 := rfl
  rw [e8] at s2
  have hW : exW (wd x) = exS (exP (exT (c64 x)) 12) 8 := by rw [ew]; rfl
  obtain ⟨b1, b2⟩ := gS_bd (p := gP (rv .f64 (c64 x) / 256) 12) (by grind) g2 8
  obtain ⟨y1, y2⟩ := ab_both s2
  have hb : ab (rv .f64 (exW (wd x))) ≤ 2 := by rw [hW]; apply ab_le <;> grind
  have hf : isF .f64 (exW (wd x)) := by rw [hW]; exact s1
  obtain ⟨_, N⟩ := narrow_val hf (by have := big32; grind)
  have hN : exN x = n32 (exW (wd x)) := by unfold exN; rw [hf.cn]
  have nu := N.up
  have nl := N.lo
  rw [← hN] at nu nl
  obtain ⟨w0, w3, x0, x3⟩ := u32
  -- nearer: the value is at most 1 and a little
  have hb1 : ab (rv .f64 (exW (wd x))) ≤ 1 + 1 / 1000000 := by rw [hW]; apply ab_le <;> grind
  have f1 := Rat.mul_le_mul_of_nonneg_right hb1 w0
  refine ⟨by rw [hN]; exact N.fin, ?_⟩
  unfold gE
  rw [← hW] at y1 y2
  apply ab_le <;> grind
end Go.Proofs.Ytamgekijihpgkaa
