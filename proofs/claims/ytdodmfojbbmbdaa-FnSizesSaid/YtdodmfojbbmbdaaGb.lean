/- The bisection that SizeOfSmalls does, over numbers: what it comes to. Plain. -/
import Derived.Test.YtdodmfojbbmbdaaGx
namespace Go.Proofs.Ytdodmfojbbmbdaa
open Go.RowKit Ieee

theorem zero_place {k : FloatKind} {x : Nat} {s : Bool} {e : Int} (h : k.format.read x = .number s 0 e) : e = k.format.leastPlace := by
  have hB := binade_pos k.format
  unfold Format.read at h
  dsimp only at h
  split at h
  · injection h with _ _ h; exact h.symm
  · split at h
    · injection h with _ h _; omega
    · split at h <;> cases h
/-- Numbers from -32 to 0 are such as the walk of the exponential takes. -/
theorem exF_of {x : Nat} (hx : isF .f32 x) (h0 : -32 ≤ rv .f32 x) (h1 : rv .f32 x ≤ 0) : ExF x := by
  obtain ⟨s, m, e, hr, he, hv⟩ := hx.val
  apply exF
  have hlp : FloatKind.f32.format.leastPlace = -149 := by decide +kernel
  have hb : bias .f32 = 127 := rfl
  have h5 : ((132 : Nat) : Int) - bias .f32 = 5 := by rw [hb]; rfl
  refine ⟨s, m, e, hr, ?_, ?_, ?_⟩
  · rw [h5]
    by_cases hm : m = 0
    · subst hm
      have := zero_place hr
      omega
    · have hab := ab_sv s m e
      rw [← hv] at hab
      have hle : ab (rv .f32 x) ≤ (2 : Rat) ^ (5 : Int) := by
        have : (2 : Rat) ^ (5 : Int) = 32 := rfl
        rw [this]; apply ab_le <;> grind
      rw [hab] at hle
      rcases Int.lt_or_le 5 e with h | h
      · exfalso
        have hm1 : (1 : Rat) ≤ (m : Rat) := by exact_mod_cast Nat.one_le_iff_ne_zero.2 hm
        have a := zle (show (5 : Int) + 1 ≤ e by omega)
        have b := Rat.mul_le_mul_of_nonneg_right hm1 (Rat.le_of_lt (zpos e))
        rw [zadd] at a
        have c := zpos 5
        have d : (2 : Rat) ^ (1 : Int) = 2 := rfl
        grind
      · exact h
  · rw [h5]
    have hab := ab_sv s m e
    rw [← hv] at hab
    have hle : ab (rv .f32 x) ≤ (2 : Rat) ^ (5 : Int) := by
      have : (2 : Rat) ^ (5 : Int) = 32 := rfl
      rw [this]; apply ab_le <;> grind
    rw [hab] at hle
    rcases Int.lt_or_le 5 e with h | h
    · by_cases hm : m = 0
      · subst hm; exact Nat.zero_le _
      · exfalso
        have hm1 : (1 : Rat) ≤ (m : Rat) := by exact_mod_cast Nat.one_le_iff_ne_zero.2 hm
        have a := zle (show (5 : Int) + 1 ≤ e by omega)
        have b := Rat.mul_le_mul_of_nonneg_right hm1 (Rat.le_of_lt (zpos e))
        rw [zadd] at a
        have c := zpos 5
        have d : (2 : Rat) ^ (1 : Int) = 2 := rfl
        grind
    · have a : (2 : Rat) ^ (5 : Int) = (2 : Rat) ^ ((5 - e).toNat : Int) * (2 : Rat) ^ e := by rw [← zadd]; congr 1; omega
      rw [a, znat] at hle
      exact Rat.natCast_le_natCast.1 (Rat.le_of_mul_le_mul_right hle (zpos e))
  · intro hs
    by_cases hm : m = 0
    · exact hm
    · exfalso
      have hs' : s = false := by cases s <;> simp at hs ⊢
      rw [hv, hs'] at h1
      unfold sv at h1
      simp only [Bool.false_eq_true, if_false] at h1
      have hm1 : (1 : Rat) ≤ (m : Rat) := by exact_mod_cast Nat.one_le_iff_ne_zero.2 hm
      have := Rat.mul_pos (show (0 : Rat) < m by grind) (zpos e)
      grind

/-- The logarithms of lengths: numbers of the size that they have. -/
structure LgF (L : Nat) : Prop where
  fin : isF .f32 L
  lo : -21 / 10 ≤ rv .f32 L
  hi : rv .f32 L ≤ 0
abbrev xL (d L : Nat) : Nat := fop .mul .f32 d L
def eL (d L : Nat) : Nat := exN (xL d L)
/-- The exponent at a place of the bisection. -/
structure XL (d L : Nat) : Prop where
  op : OpN .mul .f32 d L (rv .f32 d * rv .f32 L)
  lo : -32 ≤ rv .f32 (xL d L)
  hi : rv .f32 (xL d L) ≤ 0
  near : ab (rv .f32 (xL d L) - rv .f32 d * rv .f32 L) ≤ 1 / 500000
  glo : -32 ≤ rv .f32 d * rv .f32 L
  ghi : rv .f32 d * rv .f32 L ≤ 0
theorem xL_ok {d L : Nat} (hd : isF .f32 d) (h0 : 0 ≤ rv .f32 d) (h9 : rv .f32 d ≤ 9) (hL : LgF L) : XL d L := by
  obtain ⟨w0, w3, x0, x3⟩ := u32
  have m1 := Rat.mul_le_mul_of_nonneg_left hL.hi h0
  have m2 := Rat.mul_le_mul_of_nonneg_left hL.lo h0
  have b : ab (rv .f32 d * rv .f32 L) ≤ 20 := by apply ab_le <;> grind
  have M := op_mul hd hL.fin (by have := big32; grind)
  have f1 := Rat.mul_le_mul_of_nonneg_right b w0
  have mu := M.near.up
  have ml := M.near.lo
  have mn := M.near.neg (by grind)
  refine ⟨M, ?_, mn, ?_, by grind, by grind⟩
  · show -32 ≤ rv .f32 (fop .mul .f32 d L)
    grind
  · show ab (rv .f32 (fop .mul .f32 d L) - rv .f32 d * rv .f32 L) ≤ _
    apply ab_le <;> grind
/-- The exponential there. -/
theorem eL_ok {d L : Nat} (hd : isF .f32 d) (h0 : 0 ≤ rv .f32 d) (h9 : rv .f32 d ≤ 9) (hL : LgF L) : isF .f32 (eL d L) ∧ ab (rv .f32 (eL d L) - gE (rv .f32 d * rv .f32 L)) ≤ 1 / 200000 := by
  have X := xL_ok hd h0 h9 hL
  obtain ⟨a, b⟩ := exN_near X.op.near.fin X.lo X.hi
  refine ⟨a, ?_⟩
  obtain ⟨y1, y2⟩ := ab_both b
  obtain ⟨z1, z2⟩ := ab_both X.near
  unfold eL
  rcases @Rat.le_total (rv .f32 (fop .mul .f32 d L)) (rv .f32 d * rv .f32 L) with h | h
  · obtain ⟨g1, g2⟩ := gE_lip X.lo h X.ghi
    apply ab_le <;> grind
  · obtain ⟨g1, g2⟩ := gE_lip X.glo h X.hi
    apply ab_le <;> grind
/-- The sum of the exponentials, as the program adds them. -/
def sE (d : Nat) (Ls : List Nat) (s : Nat) : Nat := Ls.foldl (fun s L => fop .add .f32 s (eL d L)) s
/-- The sum as it should be. -/
def gSum (d : Rat) : List Nat → Rat
  | [] => 0
  | L :: Ls => gE (d * rv .f32 L) + gSum d Ls
theorem gSum_bd {d : Rat} (h0 : 0 ≤ d) (h9 : d ≤ 9) : ∀ {Ls : List Nat}, (∀ L ∈ Ls, LgF L) → 0 ≤ gSum d Ls ∧ gSum d Ls ≤ Ls.length
  | [], _ => by unfold gSum; simp
  | L :: Ls, h => by
    obtain ⟨a, b⟩ := gSum_bd h0 h9 (Ls := Ls) (fun x hx => h x (by simp [hx]))
    have hL := h L (by simp)
    have m1 := Rat.mul_le_mul_of_nonneg_left hL.hi h0
    have m2 := Rat.mul_le_mul_of_nonneg_left hL.lo h0
    obtain ⟨g1, g2⟩ := gE_bd (x := d * rv .f32 L) (by grind) (by grind)
    have e : ((L :: Ls).length : Rat) = Ls.length + 1 := by rw [List.length_cons, Rat.natCast_add]; rfl
    unfold gSum
    rw [e]
    constructor <;> grind
/-- The sum falls, and not faster than this. -/
theorem gSum_lip {d d' : Rat} (h0 : 0 ≤ d) (h : d ≤ d') (h9 : d' ≤ 9) : ∀ {Ls : List Nat}, (∀ L ∈ Ls, LgF L) → gSum d' Ls ≤ gSum d Ls ∧ gSum d Ls - gSum d' Ls ≤ 5 * (Ls.length * (d' - d))
  | [], _ => by unfold gSum; constructor <;> simp <;> grind
  | L :: Ls, hL' => by
    obtain ⟨a, b⟩ := gSum_lip h0 h h9 (Ls := Ls) (fun x hx => hL' x (by simp [hx]))
    have hL := hL' L (by simp)
    have m1 := Rat.mul_le_mul_of_nonneg_left hL.hi h0
    have m2 := Rat.mul_le_mul_of_nonneg_left hL.lo (show 0 ≤ d' by grind)
    have m3 := Rat.mul_le_mul_of_nonneg_left hL.lo (show 0 ≤ d' - d by grind)
    have m4 := Rat.mul_le_mul_of_nonneg_left hL.hi (show 0 ≤ d' - d by grind)
    obtain ⟨g1, g2⟩ := gE_lip (x := d' * rv .f32 L) (x' := d * rv .f32 L) (by grind) (by grind) (by grind)
    have e : ((L :: Ls).length : Rat) = Ls.length + 1 := by rw [List.length_cons, Rat.natCast_add]; rfl
    unfold gSum
    rw [e]
    constructor <;> grind
theorem sE_ok {d : Nat} (hd : isF .f32 d) (h0 : 0 ≤ rv .f32 d) (h9 : rv .f32 d ≤ 9) : ∀ (Ls : List Nat) (s : Nat) (B : Rat), (∀ L ∈ Ls, LgF L) → isF .f32 s → ab (rv .f32 s) ≤ B → B + 2 * Ls.length ≤ 20 →
    isF .f32 (sE d Ls s) ∧ ab (rv .f32 (sE d Ls s) - (rv .f32 s + gSum (rv .f32 d) Ls)) ≤ Ls.length * (1 / 100000)
  | [], s, B, _, hs, _, _ => by
    refine ⟨hs, ?_⟩
    show ab (rv .f32 s - (rv .f32 s + 0)) ≤ _
    have e : rv .f32 s - (rv .f32 s + 0) = 0 := by grind
    rw [e, ab_zero]
    simp
  | L :: Ls, s, B, hL', hs, hsB, hB => by
    have e : ((L :: Ls).length : Rat) = Ls.length + 1 := by rw [List.length_cons, Rat.natCast_add]; rfl
    have hl0 : (0 : Rat) ≤ (Ls.length : Rat) := by exact_mod_cast Nat.zero_le _
    rw [e] at hB ⊢
    have hL := hL' L (by simp)
    obtain ⟨f, n⟩ := eL_ok hd h0 h9 hL
    have X := xL_ok hd h0 h9 hL
    obtain ⟨g1, g2⟩ := gE_bd X.glo X.ghi
    obtain ⟨y1, y2⟩ := ab_both n
    obtain ⟨t1, t2⟩ := ab_both hsB
    have bs : ab (rv .f32 s + rv .f32 (eL d L)) ≤ 21 := by apply ab_le <;> grind
    have A := op_add hs f (by have := big32; grind)
    obtain ⟨w0, w3, x0, x3⟩ := u32
    have f1 := Rat.mul_le_mul_of_nonneg_right bs w0
    have au := A.near.up
    have al := A.near.lo
    obtain ⟨s', hs'⟩ : ∃ s', s' = fop .add .f32 s (eL d L) := ⟨_, rfl⟩
    rw [← hs'] at au al
    have fs : isF .f32 s' := by rw [hs']; exact A.near.fin
    obtain ⟨i1, i2⟩ := sE_ok hd h0 h9 Ls s' (B + 2) (fun x hx => hL' x (by simp [hx])) fs (by apply ab_le <;> grind) (by grind)
    obtain ⟨z1, z2⟩ := ab_both i2
    have e2 : sE d (L :: Ls) s = sE d Ls s' := by rw [hs']; rfl
    have e3 : gSum (rv .f32 d) (L :: Ls) = gE (rv .f32 d * rv .f32 L) + gSum (rv .f32 d) Ls := rfl
    rw [e2, e3]
    refine ⟨i1, ?_⟩
    apply ab_le <;> grind
/-- The sum from nothing. -/
theorem sE_all {d : Nat} (hd : isF .f32 d) (h0 : 0 ≤ rv .f32 d) (h9 : rv .f32 d ≤ 9) {Ls : List Nat} (hL : ∀ L ∈ Ls, LgF L) (h5 : Ls.length ≤ 5) :
    isF .f32 (sE d Ls 0) ∧ ab (rv .f32 (sE d Ls 0) - gSum (rv .f32 d) Ls) ≤ 1 / 20000 := by
  have z : isF .f32 0 ∧ rv .f32 0 = 0 := constF (by decide +kernel)
  have h5' : (Ls.length : Rat) ≤ 5 := by
    have := Rat.natCast_le_natCast.2 h5
    exact this
  obtain ⟨a, b⟩ := sE_ok hd h0 h9 Ls 0 0 hL z.1 (by rw [z.2]; exact Rat.le_refl) (by grind)
  rw [z.2] at b
  obtain ⟨z1, z2⟩ := ab_both b
  refine ⟨a, ?_⟩
  apply ab_le <;> grind

/-! The bisection. -/
def bM (lo hi : Nat) : Nat := fop .mul .f32 (cn .f32 1056964608) (fop .add .f32 lo hi)
def bS (Ls : List Nat) (p : Nat × Nat) : Nat × Nat := if ford .f32 (sE (bM p.1 p.2) Ls 0) (cn .f32 1065353216) == some .gt then (bM p.1 p.2, p.2) else (p.1, bM p.1 p.2)
def bN (Ls : List Nat) : Nat → Nat × Nat
  | 0 => (0, 1098907648)
  | k + 1 => bS Ls (bN Ls k)
/-- The middle. -/
structure BM (lo hi : Nat) : Prop where
  a : OpN .add .f32 lo hi (rv .f32 lo + rv .f32 hi)
  m : OpN .mul .f32 1056964608 (fop .add .f32 lo hi) (rv .f32 1056964608 * rv .f32 (fop .add .f32 lo hi))
  fin : isF .f32 (bM lo hi)
  pos : 0 ≤ rv .f32 (bM lo hi)
  near : ab (rv .f32 (bM lo hi) - (rv .f32 lo + rv .f32 hi) / 2) ≤ 1 / 500000
theorem bM_ok {lo hi : Nat} (f1 : isF .f32 lo) (f2 : isF .f32 hi) (h1 : 0 ≤ rv .f32 lo) (h2 : 0 ≤ rv .f32 hi) (h3 : rv .f32 lo + rv .f32 hi ≤ 18) : BM lo hi := by
  obtain ⟨w0, w3, x0, x3⟩ := u32
  have b : ab (rv .f32 lo + rv .f32 hi) ≤ 18 := by apply ab_le <;> grind
  have A := op_add f1 f2 (by have := big32; grind)
  have g1 := Rat.mul_le_mul_of_nonneg_right b w0
  have au := A.near.up
  have al := A.near.lo
  have ap := A.near.pos (by grind)
  have hh : isF .f32 1056964608 ∧ rv .f32 1056964608 = 1 / 2 := constF (by decide +kernel)
  have e1 : rv .f32 1056964608 * rv .f32 (fop .add .f32 lo hi) = rv .f32 (fop .add .f32 lo hi) / 2 := by rw [hh.2]; grind
  have b2 : ab (rv .f32 1056964608 * rv .f32 (fop .add .f32 lo hi)) ≤ 10 := by rw [e1]; apply ab_le <;> grind
  have M := op_mul hh.1 A.near.fin (by have := big32; grind)
  have g2 := Rat.mul_le_mul_of_nonneg_right b2 w0
  have mu := M.near.up
  have ml := M.near.lo
  have mp := M.near.pos (by rw [e1]; grind)
  have e2 : bM lo hi = fop .mul .f32 1056964608 (fop .add .f32 lo hi) := by unfold bM; rw [hh.1.cn]
  refine ⟨A, M, by rw [e2]; exact M.near.fin, by rw [e2]; exact mp, ?_⟩
  rw [e2]
  rw [e1] at mu ml
  rw [e1] at g2 b2
  apply ab_le <;> grind
/-- What holds in the bisection. -/
structure BI (Ls : List Nat) (p : Nat × Nat) (w : Rat) (k : Nat) : Prop where
  f1 : isF .f32 p.1
  f2 : isF .f32 p.2
  p1 : 0 ≤ rv .f32 p.1
  p2 : 0 ≤ rv .f32 p.2
  b1 : rv .f32 p.1 ≤ 8 + k * (1 / 500000)
  b2 : rv .f32 p.2 ≤ 8 + k * (1 / 500000)
  d : ab (rv .f32 p.2 - rv .f32 p.1) ≤ w
  s1 : 1 - 1 / 20000 ≤ gSum (rv .f32 p.1) Ls
  s2 : gSum (rv .f32 p.2) Ls ≤ 1 + 1 / 20000
/-- What the bisection is over. -/
structure LsF (Ls : List Nat) : Prop where
  lg : ∀ L ∈ Ls, LgF L
  pos : 1 ≤ Ls.length
  few : Ls.length ≤ 5
  at8 : gSum 8 Ls ≤ 19 / 20
theorem one_val : isF .f32 1065353216 ∧ rv .f32 1065353216 = 1 := constF (by decide +kernel)
theorem eight_val : isF .f32 1090519040 ∧ rv .f32 1090519040 = 8 := constF (by decide +kernel)
theorem zero_val : isF .f32 0 ∧ rv .f32 0 = 0 := constF (by decide +kernel)
theorem gE_0 : gE 0 = 1 := by decide +kernel
theorem gSum_0 : ∀ Ls : List Nat, gSum 0 Ls = Ls.length
  | [] => rfl
  | L :: Ls => by
    have e : ((L :: Ls).length : Rat) = Ls.length + 1 := by rw [List.length_cons, Rat.natCast_add]; rfl
    have z : 0 * rv .f32 L = 0 := by grind
    unfold gSum
    rw [e, gSum_0 Ls, z, gE_0]
    grind
theorem gt_one {x : Nat} (h : isF .f32 x) : (ford .f32 x (cn .f32 1065353216) == some .gt) = decide (1 < rv .f32 x) := by
  have e : cn .f32 1065353216 = 1065353216 := one_val.1.cn
  rw [e]
  have := (order_val h one_val.1).2.1
  rw [one_val.2] at this
  by_cases hg : 1 < rv .f32 x
  · rw [this.2 hg, decide_eq_true hg]; rfl
  · rw [decide_eq_false hg]
    cases ho : ford .f32 x 1065353216 with
    | none => rfl
    | some o =>
      cases o with
      | lt => rfl
      | eq => rfl
      | gt => exact absurd (this.1 ho) hg
theorem bN_one {Ls : List Nat} (H : LsF Ls) : bN Ls 1 = (0, 1090519040) ∧ BI Ls (0, 1090519040) 8 0 := by
  have hm : bM 0 1098907648 = 1090519040 := by decide +kernel
  obtain ⟨a, b⟩ := sE_all eight_val.1 (by rw [eight_val.2]; decide) (by rw [eight_val.2]; decide) H.lg H.few
  rw [eight_val.2] at b
  obtain ⟨y1, y2⟩ := ab_both b
  have h8 := H.at8
  constructor
  · show bS Ls (0, 1098907648) = _
    unfold bS
    rw [hm, gt_one a, decide_eq_false (by grind)]
    rfl
  · have h1 : (1 : Rat) ≤ (Ls.length : Rat) := by
      have := Rat.natCast_le_natCast.2 H.pos
      exact this
    have e0 : ((0 : Nat) : Rat) = 0 := rfl
    refine ⟨zero_val.1, eight_val.1, ?_, ?_, ?_, ?_, ?_, ?_, ?_⟩
    · rw [zero_val.2]; exact Rat.le_refl
    · rw [eight_val.2]; decide
    · rw [zero_val.2, e0]; grind
    · rw [eight_val.2, e0]; grind
    · rw [eight_val.2, zero_val.2]; apply ab_le <;> grind
    · rw [zero_val.2, gSum_0]; grind
    · rw [eight_val.2]; grind
theorem bS_ok {Ls : List Nat} {p : Nat × Nat} {w : Rat} {k : Nat} (H : LsF Ls) (hk : k ≤ 40) (I : BI Ls p w k) : BM p.1 p.2 ∧ (isF .f32 (bM p.1 p.2) ∧ 0 ≤ rv .f32 (bM p.1 p.2) ∧ rv .f32 (bM p.1 p.2) ≤ 9) ∧ BI Ls (bS Ls p) (w / 2 + 1 / 500000) (k + 1) := by
  have hk' : (k : Rat) ≤ 40 := by
    have := Rat.natCast_le_natCast.2 hk
    exact this
  have hk0 : (0 : Rat) ≤ (k : Rat) := by exact_mod_cast Nat.zero_le k
  have ek : ((k + 1 : Nat) : Rat) = k + 1 := by rw [Rat.natCast_add]; rfl
  obtain ⟨f1, f2, p1, p2, b1, b2, d, s1, s2⟩ := I
  have M := bM_ok f1 f2 p1 p2 (by grind)
  have mf := M.fin
  have mp := M.pos
  obtain ⟨y1, y2⟩ := ab_both M.near
  obtain ⟨z1, z2⟩ := ab_both d
  have m9 : rv .f32 (bM p.1 p.2) ≤ 9 := by grind
  have mb : rv .f32 (bM p.1 p.2) ≤ 8 + ((k + 1 : Nat) : Rat) * (1 / 500000) := by rw [ek]; grind
  have bb1 : rv .f32 p.1 ≤ 8 + ((k + 1 : Nat) : Rat) * (1 / 500000) := by rw [ek]; grind
  have bb2 : rv .f32 p.2 ≤ 8 + ((k + 1 : Nat) : Rat) * (1 / 500000) := by rw [ek]; grind
  obtain ⟨a, b⟩ := sE_all mf mp m9 H.lg H.few
  obtain ⟨x1, x2⟩ := ab_both b
  refine ⟨M, ⟨mf, mp, m9⟩, ?_⟩
  unfold bS
  rw [gt_one a]
  by_cases hg : 1 < rv .f32 (sE (bM p.1 p.2) Ls 0)
  · rw [decide_eq_true hg, if_pos rfl]
    refine ⟨mf, f2, mp, p2, mb, bb2, ?_, ?_, s2⟩
    · apply ab_le <;> grind
    · grind
  · rw [decide_eq_false hg, if_neg (by decide)]
    refine ⟨f1, mf, p1, mp, bb1, mb, ?_, s1, ?_⟩
    · apply ab_le <;> grind
    · grind
def bw : Nat → Rat
  | 0 => 8
  | k + 1 => bw k / 2 + 1 / 500000
theorem bw_39 : bw 39 ≤ 1 / 200000 := by decide +kernel
theorem bN_ok {Ls : List Nat} (H : LsF Ls) : ∀ k, k ≤ 39 → BI Ls (bN Ls (k + 1)) (bw k) k
  | 0, _ => by
    obtain ⟨a, b⟩ := bN_one H
    rw [a]; exact b
  | k + 1, h => by
    have I := bN_ok H k (by omega)
    exact (bS_ok H (by omega) I).2.2
/-- The bisection's end. -/
structure BF (Ls : List Nat) (s : Nat) : Prop where
  fin : isF .f32 s
  lo : 0 ≤ rv .f32 s
  hi : rv .f32 s ≤ 9
  sum : ab (gSum (rv .f32 s) Ls - 1) ≤ 1 / 5000
theorem bN_end {Ls : List Nat} (H : LsF Ls) : BF Ls (bN Ls 40).1 := by
  obtain ⟨f1, f2, p1, p2, b1, b2, d, s1, s2⟩ := bN_ok H 39 (by decide)
  have hw := bw_39
  have e39 : ((39 : Nat) : Rat) = 39 := rfl
  rw [e39] at b1 b2
  have b1' : rv .f32 (bN Ls 40).1 ≤ 9 := by grind
  have b2' : rv .f32 (bN Ls 40).2 ≤ 9 := by grind
  obtain ⟨z1, z2⟩ := ab_both d
  have h5' : (Ls.length : Rat) ≤ 5 := by
    have := Rat.natCast_le_natCast.2 H.few
    exact this
  refine ⟨f1, p1, b1', ?_⟩
  rcases @Rat.le_total (rv .f32 (bN Ls 40).1) (rv .f32 (bN Ls 40).2) with h | h
  · obtain ⟨g1, g2⟩ := gSum_lip p1 h b2' H.lg
    have m := Rat.mul_le_mul_of_nonneg_right h5' (show 0 ≤ rv .f32 (bN Ls 40).2 - rv .f32 (bN Ls 40).1 by grind)
    apply ab_le <;> grind
  · obtain ⟨g1, g2⟩ := gSum_lip p2 h b1' H.lg
    apply ab_le <;> grind
end Go.Proofs.Ytdodmfojbbmbdaa
