/- The law's sum; equal maps. Plain. -/
import Derived.Test.YtdodmfojbbmbdaaJn
namespace Go.Proofs.Ytdodmfojbbmbdaa
open Go.RowKit Ieee

/-- The law's sum in 64 bits. -/
def s64 (d : Nat) (Ls : List Nat) (s : Nat) : Nat := Ls.foldl (fun s L => fop .add .f64 s (c64 (eL d L))) s
theorem s64_snoc (d : Nat) (Ls : List Nat) (L s : Nat) : s64 d (Ls ++ [L]) s = fop .add .f64 (s64 d Ls s) (c64 (eL d L)) := by unfold s64; rw [List.foldl_append]; rfl
theorem s64_ok {d : Nat} (hd : isF .f32 d) (h0 : 0 ≤ rv .f32 d) (h9 : rv .f32 d ≤ 9) : ∀ (Ls : List Nat) (s : Nat) (B : Rat), (∀ L ∈ Ls, LgF L) → isF .f64 s → ab (rv .f64 s) ≤ B → B + 2 * Ls.length ≤ 20 →
    isF .f64 (s64 d Ls s) ∧ ab (rv .f64 (s64 d Ls s) - (rv .f64 s + gSum (rv .f32 d) Ls)) ≤ Ls.length * (1 / 100000)
  | [], s, B, _, hs, _, _ => by
    refine ⟨hs, ?_⟩
    show ab (rv .f64 s - (rv .f64 s + 0)) ≤ _
    have e : rv .f64 s - (rv .f64 s + 0) = 0 := by grind
    rw [e, ab_zero]
    simp
  | L :: Ls, s, B, hL', hs, hsB, hB => by
    have e : ((L :: Ls).length : Rat) = Ls.length + 1 := by rw [List.length_cons, Rat.natCast_add]; rfl
    have hl0 : (0 : Rat) ≤ (Ls.length : Rat) := by exact_mod_cast Nat.zero_le _
    rw [e] at hB ⊢
    have hL := hL' L (by simp)
    obtain ⟨f0, n⟩ := eL_ok hd h0 h9 hL
    obtain ⟨f, fv⟩ := wide_val f0
    rw [← fv] at n
    have X := xL_ok hd h0 h9 hL
    obtain ⟨g1, g2⟩ := gE_bd X.glo X.ghi
    obtain ⟨y1, y2⟩ := ab_both n
    obtain ⟨t1, t2⟩ := ab_both hsB
    have bs : ab (rv .f64 s + rv .f64 (c64 (eL d L))) ≤ 21 := by apply ab_le <;> grind
    have A := op_add hs f (by have := big64; grind)
    obtain ⟨w0, w3, x0, x3⟩ := u64
    have f1 := Rat.mul_le_mul_of_nonneg_right bs w0
    have au := A.near.up
    have al := A.near.lo
    obtain ⟨s', hs'⟩ : ∃ s', s' = fop .add .f64 s (c64 (eL d L)) := ⟨_, rfl⟩
    rw [← hs'] at au al
    have fs : isF .f64 s' := by rw [hs']; exact A.near.fin
    obtain ⟨i1, i2⟩ := s64_ok hd h0 h9 Ls s' (B + 2) (fun x hx => hL' x (by simp [hx])) fs (by apply ab_le <;> grind) (by grind)
    obtain ⟨z1, z2⟩ := ab_both i2
    have e2 : s64 d (L :: Ls) s = s64 d Ls s' := by rw [hs']; rfl
    have e3 : gSum (rv .f32 d) (L :: Ls) = gE (rv .f32 d * rv .f32 L) + gSum (rv .f32 d) Ls := rfl
    rw [e2, e3]
    refine ⟨i1, ?_⟩
    apply ab_le <;> grind
theorem zero64 : isF .f64 0 ∧ rv .f64 0 = 0 := constF (by decide +kernel)
theorem s64_all {d : Nat} (hd : isF .f32 d) (h0 : 0 ≤ rv .f32 d) (h9 : rv .f32 d ≤ 9) {Ls : List Nat} (hL : ∀ L ∈ Ls, LgF L) (h5 : Ls.length ≤ 5) :
    isF .f64 (s64 d Ls 0) ∧ ab (rv .f64 (s64 d Ls 0) - gSum (rv .f32 d) Ls) ≤ 1 / 20000 := by
  have h5' : (Ls.length : Rat) ≤ 5 := by
    have := Rat.natCast_le_natCast.2 h5
    exact this
  obtain ⟨a, b⟩ := s64_ok hd h0 h9 Ls 0 0 hL zero64.1 (by rw [zero64.2]; exact Rat.le_refl) (by grind)
  rw [zero64.2] at b
  obtain ⟨z1, z2⟩ := ab_both b
  refine ⟨a, ?_⟩
  apply ab_le <;> grind
/-- A term of the law's sum. -/
theorem t64_of {Ls : List Nat} (H : LsF Ls) {d : Nat} (hd : isF .f32 d) (h0 : 0 ≤ rv .f32 d) (h9 : rv .f32 d ≤ 9) {k : Nat} (hk : k < Ls.length) :
    ∃ x E, ((∀ w, fres .mul .f32 d Ls[k] w = x) ∧ fdr .mul .f32 d Ls[k] = 0) ∧ ExF x ∧ exN x = E ∧ isN .f32 E = false ∧ (wdr E = 0 ∧ ∀ w, wres E w = c64 E) ∧
      ((∀ w, fres .add .f64 (s64 d (Ls.take k) 0) (c64 E) w = s64 d (Ls.take (k + 1)) 0) ∧ fdr .add .f64 (s64 d (Ls.take k) 0) (c64 E) = 0) := by
  have hL := H.lg Ls[k] (List.getElem_mem hk)
  have X := xL_ok hd h0 h9 hL
  obtain ⟨f, n⟩ := eL_ok hd h0 h9 hL
  obtain ⟨fw, fv⟩ := wide_val f
  rw [← fv] at n
  have hT : ∀ L ∈ Ls.take k, LgF L := fun L h => H.lg L (List.mem_of_mem_take h)
  have hl : (Ls.take k).length ≤ 5 := by rw [List.length_take]; have := H.few; omega
  obtain ⟨a, b⟩ := s64_all hd h0 h9 hT hl
  obtain ⟨g1, g2⟩ := gSum_bd h0 h9 hT
  obtain ⟨g3, g4⟩ := gE_bd X.glo X.ghi
  have hl' : ((Ls.take k).length : Rat) ≤ 5 := by
    have := Rat.natCast_le_natCast.2 hl
    exact this
  obtain ⟨y1, y2⟩ := ab_both b
  obtain ⟨z1, z2⟩ := ab_both n
  have hb : ab (rv .f64 (s64 d (Ls.take k) 0) + rv .f64 (c64 (eL d Ls[k]))) ≤ 10 := by apply ab_le <;> grind
  have A := op_add a fw (by have := big64; grind)
  refine ⟨xL d Ls[k], eL d Ls[k], ⟨X.op.res, X.op.dr⟩, exF_of X.op.near.fin X.lo X.hi, rfl, f.num, wdr_zero f, ?_⟩
  rw [List.take_succ_eq_append_getElem hk, s64_snoc]
  exact ⟨A.res, A.dr⟩
/-! Equal maps. -/
def eL1 (j : Nat) : Nat := logF (lgV (q8 ((j : Int) + 1)) 0)
def eLv (j n : Nat) : Nat := fop .quo .f64 (Op.negFloat .f64 (c64 (logF (cn .f32 (floatOfInt .f32 (n : Int)))))) (c64 (logF (q8 ((j : Int) + 1))))
def eD (c j n : Nat) : Nat := n32 (fop .mul .f64 (eLv j n) (cn .f64 c))
def eqB (j n : Nat) : Bool := lgFB (eL1 j) && isFb .f32 (eD 4607146390002998444 j n) && isFb .f32 (eD 4607200433198526890 j n) && decide (0 ≤ rv .f32 (eD 4607146390002998444 j n)) && decide (0 ≤ rv .f32 (eD 4607200433198526890 j n)) && decide (rv .f32 (eD 4607146390002998444 j n) ≤ 9) && decide (rv .f32 (eD 4607200433198526890 j n) ≤ 9) &&
  decide (1 + 1 / 2000 ≤ rv .f32 (sE (eD 4607146390002998444 j n) (List.replicate n (eL1 j)) 0)) && decide (rv .f32 (sE (eD 4607200433198526890 j n) (List.replicate n (eL1 j)) 0) ≤ 1 - 1 / 2000) && isFb .f64 (eLv j n) && decide (0 ≤ rv .f64 (eLv j n)) && decide (rv .f64 (eLv j n) ≤ 9) &&
  decide (200 * (rv .f32 (eD 4607200433198526890 j n) - rv .f64 (eLv j n)) ≤ 1 + rv .f64 (eLv j n)) && decide (200 * (rv .f64 (eLv j n) - rv .f32 (eD 4607146390002998444 j n)) ≤ 1 + rv .f64 (eLv j n))
theorem e_all : ∀ j, j < 6 → ∀ n, n < 4 → eqB j (n + 2) = true := by decide +kernel
theorem eq_near {j n : Nat} (hj : j < 6) (h2 : 2 ≤ n) (h5 : n ≤ 5) : LsF (List.replicate n (eL1 j)) ∧ isF .f64 (eLv j n) ∧ 0 ≤ rv .f64 (eLv j n) ∧ rv .f64 (eLv j n) ≤ 9 ∧
    200 * (rv .f32 (bN (List.replicate n (eL1 j)) 40).1 - rv .f64 (eLv j n)) ≤ 1 + rv .f64 (eLv j n) ∧ 200 * (rv .f64 (eLv j n) - rv .f32 (bN (List.replicate n (eL1 j)) 40).1) ≤ 1 + rv .f64 (eLv j n) := by
  have h := e_all j hj (n - 2) (by omega)
  rw [show n - 2 + 2 = n by omega] at h
  unfold eqB at h
  simp only [Bool.and_eq_true, decide_eq_true_eq] at h
  obtain ⟨⟨⟨⟨⟨⟨⟨⟨⟨⟨⟨⟨⟨a1, a2⟩, a3⟩, a4⟩, a5⟩, a6⟩, a7⟩, a8⟩, a9⟩, a10⟩, a11⟩, a12⟩, a13⟩, a14⟩ := h
  have H : LsF (List.replicate n (eL1 j)) := lsF_of (fun L hL => by rw [(List.mem_replicate.1 hL).2]; exact a1) (by rw [List.length_replicate]; omega) (by rw [List.length_replicate]; exact h5)
  have B := bN_end H
  obtain ⟨s1, s2⟩ := ab_both B.sum
  obtain ⟨p1, p2⟩ := sE_all (isF_of a2) a4 a6 H.lg H.few
  obtain ⟨q1, q2⟩ := sE_all (isF_of a3) a5 a7 H.lg H.few
  obtain ⟨p3, p4⟩ := ab_both p2
  obtain ⟨q3, q4⟩ := ab_both q2
  refine ⟨H, isF_of a10, a11, a12, ?_, ?_⟩
  · rcases @Rat.le_total (rv .f32 (eD 4607200433198526890 j n)) (rv .f32 (bN (List.replicate n (eL1 j)) 40).1) with h | h
    · exfalso
      obtain ⟨g1, _⟩ := gSum_lip a5 h B.hi H.lg
      grind
    · grind
  · rcases @Rat.le_total (rv .f32 (bN (List.replicate n (eL1 j)) 40).1) (rv .f32 (eD 4607146390002998444 j n)) with h | h
    · exfalso
      obtain ⟨g1, _⟩ := gSum_lip B.lo h a6 H.lg
      grind
    · grind
/-- A gap of numbers of 64 bits. -/
def gapF (a b : Nat) : Nat := if ford .f64 a b == some .lt then fop .sub .f64 b a else fop .sub .f64 a b
theorem gapF_ok {a b : Nat} {q : Rat} (ha : isF .f64 a) (hb : isF .f64 b) (h1 : rv .f64 a - rv .f64 b ≤ q) (h2 : rv .f64 b - rv .f64 a ≤ q) (hq : q ≤ 10) : isF .f64 (gapF a b) ∧ rv .f64 (gapF a b) ≤ q + 1 / 1000000 := by
  obtain ⟨w0, w3, x0, x3⟩ := u64
  have hq0 : 0 ≤ q := by grind
  unfold gapF
  split
  · have hab : ab (rv .f64 b - rv .f64 a) ≤ 10 := by apply ab_le <;> grind
    have S := op_sub hb ha (by have := big64; grind)
    have f := Rat.mul_le_mul_of_nonneg_right hab w0
    have u := S.near.up
    exact ⟨S.near.fin, by grind⟩
  · have hab : ab (rv .f64 a - rv .f64 b) ≤ 10 := by apply ab_le <;> grind
    have S := op_sub ha hb (by have := big64; grind)
    have f := Rat.mul_le_mul_of_nonneg_right hab w0
    have u := S.near.up
    exact ⟨S.near.fin, by grind⟩
theorem not_gt {k : FloatKind} {x y : Nat} (hx : isF k x) (hy : isF k y) (h : rv k x ≤ rv k y) : (ford k x y == some .gt) = false := by
  have := (order_val hx hy).2.1
  cases ho : ford k x y with
  | none => rfl
  | some o =>
    cases o with
    | lt => rfl
    | eq => rfl
    | gt => exact absurd (this.1 ho) (by grind)
theorem c01 : isF .f64 4576918229304087675 ∧ (99 / 10000 ≤ rv .f64 4576918229304087675 ∧ rv .f64 4576918229304087675 ≤ 101 / 10000) := ⟨isF_of (by decide +kernel), by decide +kernel⟩
theorem one64 : isF .f64 4607182418800017408 ∧ rv .f64 4607182418800017408 = 1 := constF (by decide +kernel)
/-- The sum's gap to 1 is small. -/
theorem sum_gap {Ls : List Nat} (H : LsF Ls) : (ford .f64 (gapF (s64 (bN Ls 40).1 Ls 0) 4607182418800017408) 4576918229304087675 == some .gt) = false := by
  have B := bN_end H
  obtain ⟨a, b⟩ := s64_all B.fin B.lo B.hi H.lg H.few
  obtain ⟨s1, s2⟩ := ab_both B.sum
  obtain ⟨p1, p2⟩ := ab_both b
  obtain ⟨g1, g2⟩ := gapF_ok (q := 1 / 1000) a one64.1 (by rw [one64.2]; grind) (by rw [one64.2]; grind) (by grind)
  exact not_gt g1 c01.1 (by have := c01.2.1; grind)
end Go.Proofs.Ytdodmfojbbmbdaa
