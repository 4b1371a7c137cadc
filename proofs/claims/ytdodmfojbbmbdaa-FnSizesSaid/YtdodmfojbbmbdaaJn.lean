/- What drawn maps come to. Plain. -/
import Derived.Test.YtdodmfojbbmbdaaDr
namespace Go.Proofs.Ytdodmfojbbmbdaa
open Go.RowKit Ieee

/-- The share of n. -/
def uN (n : Nat) : Nat := fop .quo .f32 (cn .f32 1065353216) (cn .f32 (floatOfInt .f32 n))
theorem j_share : ∀ n, n < 6 → 0 < n → (shOk (uN n) n && shareB (uN n)) = true := by decide +kernel
theorem j_part : ∀ j, j < 17 → partB (q8 ((j : Nat) - 8 : Int)) = true := by decide +kernel
theorem j_nz : ∀ i, i < 4 → (ford .f32 (cn .f32 (q8 ((i : Nat) + 1 : Int))) (cn .f32 0) == some .eq) = false := by decide +kernel
theorem part8 {v : Int} (h1 : -8 ≤ v) (h2 : v ≤ 8) : partB (q8 v) = true := by
  have h := j_part (v + 8).toNat (by omega)
  rw [show (((v + 8).toNat : Nat) - 8 : Int) = v by omega] at h
  exact h
theorem turn_smT {S : SmV} (h : turnB S.tr S.ti = true) (hz : (ford .f32 (cn .f32 S.tr) (cn .f32 0) == some .eq) = false) : SmT S := by
  unfold turnB at h
  simp only [Bool.and_eq_true, Bool.not_eq_true', beq_iff_eq] at h
  obtain ⟨⟨⟨⟨h1, _⟩, h3⟩, h4⟩, h5⟩ := h
  exact ⟨hz, lgD_of h1, h3, h4, h5⟩
theorem DSm.valid {S : SmV} {n : Nat} (D : DSm S n) (h6 : n < 6) (h0 : 0 < n) : vsB S = true := by
  obtain ⟨⟨i, hi, e1⟩, ⟨j, hj, e2⟩, ⟨k, hk, e3⟩, ⟨l, hl, e4⟩, e5⟩ := D
  have hs := j_share n h6 h0
  rw [Bool.and_eq_true] at hs
  unfold vsB
  rw [e1, e2, e3, e4, e5, t_turn i hi j hj, part8 (by omega) (by omega), part8 (by omega) (by omega), part8 (by omega) (by omega), part8 (by omega) (by omega)]
  exact hs.2
theorem DSm.smT {S : SmV} {n : Nat} (D : DSm S n) : SmT S := by
  obtain ⟨⟨i, hi, e1⟩, ⟨j, hj, e2⟩, _⟩ := D
  exact turn_smT (by rw [e1, e2]; exact t_turn i hi j hj) (by rw [e1]; exact j_nz i hi)
theorem DSm.smL {Ss : List SmV} (h : ∀ S ∈ Ss, DSm S Ss.length) (h6 : Ss.length < 6) (h0 : 0 < Ss.length) : SmL Ss (uN Ss.length) := by
  have hs := j_share _ h6 h0
  rw [Bool.and_eq_true] at hs
  exact ⟨h0, by omega, fun S hS => ⟨(h S hS).valid h6 h0, (h S hS).sh⟩, hs.1⟩
theorem gSum_le {d q : Rat} : ∀ {Ls : List Nat}, (∀ L ∈ Ls, gE (d * rv .f32 L) ≤ q) → gSum d Ls ≤ Ls.length * q
  | [], _ => by unfold gSum; simp
  | L :: Ls, h => by
    have i := gSum_le (Ls := Ls) (fun x hx => h x (by simp [hx]))
    have hL := h L (by simp)
    have e : ((L :: Ls).length : Rat) = Ls.length + 1 := by rw [List.length_cons, Rat.natCast_add]; rfl
    unfold gSum
    rw [e]
    grind
theorem lsF_of {Ls : List Nat} (h : ∀ L ∈ Ls, lgFB L = true) (h0 : 1 ≤ Ls.length) (h5 : Ls.length ≤ 5) : LsF Ls := by
  have hx : ∀ L ∈ Ls, LgF L ∧ gE (8 * rv .f32 L) ≤ 19 / 100 := fun L hL => by
    have := h L hL
    unfold lgFB at this
    simp only [Bool.and_eq_true, decide_eq_true_eq] at this
    exact ⟨⟨isF_of this.1.1.1, this.1.1.2, this.1.2⟩, this.2⟩
  have hg := gSum_le (d := 8) (q := 19 / 100) (Ls := Ls) (fun L hL => (hx L hL).2)
  have h5' : (Ls.length : Rat) ≤ 5 := by
    have := Rat.natCast_le_natCast.2 h5
    exact this
  exact ⟨fun L hL => (hx L hL).1, h0, h5, by grind⟩
theorem DSm.lsF {Ss : List SmV} (h : ∀ S ∈ Ss, DSm S Ss.length) (h6 : Ss.length < 6) (h0 : 0 < Ss.length) : LsF (lgs Ss) := by
  have hl : (lgs Ss).length = Ss.length := by unfold lgs; rw [List.length_map]
  refine lsF_of (fun L hL => ?_) (by omega) (by omega)
  unfold lgs at hL
  obtain ⟨S, hS, rfl⟩ := List.mem_map.1 hL
  obtain ⟨⟨i, hi, e1⟩, ⟨j, hj, e2⟩, _⟩ := h S hS
  rw [e1, e2]
  exact t_lf i hi j hj
/-! Mixed maps. -/
theorem m_shift : ∀ a, a < 9 → ∀ b, b < 9 → ∀ s, s < 9 → (mixB (q8 (2 * ((a : Nat) - 4 : Int))) (q8 (2 * ((b : Nat) - 4 : Int))) (q8 ((s : Nat) : Int)) && partB (mixV (q8 (2 * ((a : Nat) - 4 : Int))) (q8 (2 * ((b : Nat) - 4 : Int))) (q8 ((s : Nat) : Int)))) = true := by decide +kernel
theorem m_sh : ∀ n, n < 6 → 0 < n → ∀ s, s < 9 → (mixB (uN n) (uN n) (q8 ((s : Nat) : Int)) && (mixV (uN n) (uN n) (q8 ((s : Nat) : Int)) == uN n)) = true := by decide +kernel
theorem m_s : ∀ s, s < 9 → shareB (q8 ((s : Nat) : Int)) = true := by decide +kernel
theorem m_part64 : ∀ j, j < 65 → partB (q64 ((j : Nat) - 32 : Int)) = true := by decide +kernel
theorem part64 {v : Int} (h1 : -32 ≤ v) (h2 : v ≤ 32) : partB (q64 v) = true := by
  have h := m_part64 (v + 32).toNat (by omega)
  rw [show (((v + 32).toNat : Nat) - 32 : Int) = v by omega] at h
  exact h
/-- The like, but for the side on which it turns. -/
structure DPair (S T : SmV) (n : Nat) : Prop where
  a : DSm S n
  b : DSm T n
  fl : S.fl = T.fl
theorem mid_bd {a b s : Int} {lo hi : Int} (h0 : 0 ≤ s) (h8 : s ≤ 8) (a1 : lo ≤ a) (a2 : a ≤ hi) (b1 : lo ≤ b) (b2 : b ≤ hi) : 8 * lo ≤ 8 * a + s * (b - a) ∧ 8 * a + s * (b - a) ≤ 8 * hi := by
  have e : 8 * a + s * (b - a) = (8 - s) * a + s * b := by grind
  rw [e]
  have x1 := Int.mul_le_mul_of_nonneg_left a1 (show 0 ≤ 8 - s by omega)
  have x2 := Int.mul_le_mul_of_nonneg_left a2 (show 0 ≤ 8 - s by omega)
  have y1 := Int.mul_le_mul_of_nonneg_left b1 h0
  have y2 := Int.mul_le_mul_of_nonneg_left b2 h0
  constructor <;> grind
theorem DPair.mx {S T : SmV} {n s : Nat} (P : DPair S T n) (hs : s < 9) (h6 : n < 6) (h0 : 0 < n) : MxS (q8 (s : Int)) S T ∧ vsB (mixS (q8 (s : Int)) S T) = true ∧ (mixS (q8 (s : Int)) S T).sh = uN n := by
  obtain ⟨⟨⟨i, hi, e1⟩, ⟨j, hj, e2⟩, ⟨k, hk, e3⟩, ⟨l, hl, e4⟩, e5⟩, ⟨⟨i', hi', g1⟩, ⟨j', hj', g2⟩, ⟨k', hk', g3⟩, ⟨l', hl', g4⟩, g5⟩, hf⟩ := P
  have a1 := t_mix (i + 5) (by omega) (i' + 5) (by omega) s hs
  have a2 := t_mix j hj j' hj' s hs
  have a3 := m_shift k hk k' hk' s hs
  have a4 := m_shift l hl l' hl' s hs
  have a5 := m_sh n h6 h0 s hs
  rw [show (((i + 5 : Nat) : Int) - 4) = (i : Int) + 1 by omega, show (((i' + 5 : Nat) : Int) - 4) = (i' : Int) + 1 by omega] at a1
  simp only [Bool.and_eq_true, beq_iff_eq] at a1 a2 a3 a4 a5
  have e5' : S.sh = uN n := e5
  have g5' : T.sh = uN n := g5
  rw [← e1, ← g1] at a1
  rw [← e2, ← g2] at a2
  rw [← e3, ← g3] at a3
  rw [← e4, ← g4] at a4
  rw [← e5'] at a5
  obtain ⟨r1, r2⟩ := mid_bd (a := (i : Int) + 1) (b := (i' : Int) + 1) (s := s) (lo := 1) (hi := 4) (by omega) (by omega) (by omega) (by omega) (by omega) (by omega)
  obtain ⟨r3, r4⟩ := mid_bd (a := (j : Int) - 4) (b := (j' : Int) - 4) (s := s) (lo := -4) (hi := 4) (by omega) (by omega) (by omega) (by omega) (by omega) (by omega)
  have x1 : mixV S.tr T.tr (q8 (s : Int)) = q64 (8 * ((i : Int) + 1) + s * (((i' : Int) + 1) - ((i : Int) + 1))) := by rw [a1.2, show (((i' + 5 : Nat) : Int) - ((i + 5 : Nat) : Int)) = ((i' : Int) + 1) - ((i : Int) + 1) by omega]
  have x2 : mixV S.ti T.ti (q8 (s : Int)) = q64 (8 * ((j : Int) - 4) + s * (((j' : Int) - 4) - ((j : Int) - 4))) := by rw [a2.2, show ((j' : Int) - (j : Int)) = ((j' : Int) - 4) - ((j : Int) - 4) by omega]
  obtain ⟨u1, hu1⟩ : ∃ u, u = 8 * ((i : Int) + 1) + s * (((i' : Int) + 1) - ((i : Int) + 1)) := ⟨_, rfl⟩
  obtain ⟨u2, hu2⟩ : ∃ u, u = 8 * ((j : Int) - 4) + s * (((j' : Int) - 4) - ((j : Int) - 4)) := ⟨_, rfl⟩
  rw [← hu1] at r1 r2 x1
  rw [← hu2] at r3 r4 x2
  have ht := t_turn64 (u1 - 8).toNat (by omega) (u2 + 32).toNat (by omega)
  rw [show (((u1 - 8).toNat : Nat) + 8 : Int) = u1 by omega, show (((u2 + 32).toNat : Nat) - 32 : Int) = u2 by omega] at ht
  have hsh := j_share n h6 h0
  rw [Bool.and_eq_true] at hsh
  refine ⟨⟨mxD_of a1.1, mxD_of a2.1, mxD_of a3.1, mxD_of a4.1, mxD_of (by rw [show T.sh = S.sh by rw [g5', e5']]; exact a5.1), hf⟩, ?_, ?_⟩
  · unfold vsB mixS
    dsimp only
    rw [x1, x2, ht, part64 (by omega) (by omega), part64 (by omega) (by omega), a3.2, a4.2, g5', ← e5', a5.2, e5']
    exact hsh.2
  · unfold mixS
    dsimp only
    rw [g5', ← e5', a5.2]
end Go.Proofs.Ytdodmfojbbmbdaa
