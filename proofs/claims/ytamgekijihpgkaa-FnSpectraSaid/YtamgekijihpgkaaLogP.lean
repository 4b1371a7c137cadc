/- The logarithm as both sides reckon it, and that it fits into 32 bits. Plain: nothing of the dump. -/
import Derived.Test.YtamgekijihpgkaaMa
namespace Go.Proofs.Ytamgekijihpgkaa
open Ieee

def k15 : Nat := cn .f64 4609434218613702656
def k075 : Nat := cn .f64 4604930618986332160
def kTwo : Nat := cn .f64 4611686018427387904
def kOne : Nat := cn .f64 4607182418800017408
def kLn2 : Nat := cn .f64 4604418534313441775
def geB (x c : Nat) : Bool := ford .f64 x c == some .gt || ford .f64 x c == some .eq
def ltB (x c : Nat) : Bool := ford .f64 x c == some .lt

/-- Halved till it is less than 1.5; how often. -/
def halves : Nat → Nat → Nat → Nat × Nat
  | 0, y, j => (y, j)
  | f + 1, y, j => if geB y k15 then halves f (fop .quo .f64 y kTwo) (j + 1) else (y, j)
/-- Doubled till it is 0.75 or more; how often. -/
def doubles : Nat → Nat → Nat → Nat × Nat
  | 0, y, j => (y, j)
  | f + 1, y, j => if ltB y k075 then doubles f (fop .mul .f64 y kTwo) (j + 1) else (y, j)
theorem halves_go {f y j : Nat} (h : geB y k15 = true) : halves (f + 1) y j = halves f (fop .quo .f64 y kTwo) (j + 1) := by simp [halves, h]
theorem halves_end {f y j : Nat} (h : geB y k15 = false) : halves f y j = (y, j) := by cases f <;> simp [halves, h]
theorem doubles_go {f y j : Nat} (h : ltB y k075 = true) : doubles (f + 1) y j = doubles f (fop .mul .f64 y kTwo) (j + 1) := by simp [doubles, h]
theorem doubles_end {f y j : Nat} (h : ltB y k075 = false) : doubles f y j = (y, j) := by cases f <;> simp [doubles, h]

theorem binL : FloatKind.f64.format.binade = 4503599627370496 := by decide
theorem b64 : bias .f64 = 1023 := rfl
theorem two_in : In .f64 kTwo 1024 1024 := by unfold In; rw [binL]; decide +kernel
theorem one_in : In .f64 kOne 1023 1023 := by unfold In; rw [binL]; decide +kernel
theorem k15_num : isN .f64 k15 = false := by decide +kernel
theorem k075_num : isN .f64 k075 = false := by decide +kernel

/-- A positive number's place is its bits' place. -/
theorem In.key {b lo hi : Nat} (h : In .f64 b lo hi) (hT : hi ≤ 2046) : fkey .f64 b = (rval double b : Int) :=
  fkey_word .f64 false (h.lt (by rw [b64]; omega))
theorem lt_bits {b c lo hi lo' hi' : Nat} (h : In .f64 b lo hi) (hT : hi ≤ 2046) (h' : In .f64 c lo' hi') (hT' : hi' ≤ 2046) : ltB b c = decide (b < c) := by
  unfold ltB
  have n1 := h.num (by rw [b64]; omega)
  have n2 := h'.num (by rw [b64]; omega)
  rw [ford_key n1 n2, h.key hT, h'.key hT']
  by_cases hlt : b < c
  · have := rval_lt (f := double) hlt
    rw [cmp_lt (by omega)]; simp [hlt]
  · have := rval_le (f := double) (show c ≤ b by omega)
    have hne : compare (rval double b : Int) (rval double c : Int) ≠ .lt := fun hh => by have := Int.compare_eq_lt.1 hh; omega
    simp [hlt]
    exact hne
theorem ge_bits {b c lo hi lo' hi' : Nat} (h : In .f64 b lo hi) (hT : hi ≤ 2046) (h' : In .f64 c lo' hi') (hT' : hi' ≤ 2046) : geB b c = decide (c ≤ b) := by
  have h1 := lt_bits h hT h' hT'
  unfold geB
  unfold ltB at h1
  have n1 := h.num (by rw [b64]; omega)
  have n2 := h'.num (by rw [b64]; omega)
  rw [ford_key n1 n2] at h1 ⊢
  cases hc : compare (fkey .f64 b) (fkey .f64 c) <;> rw [hc] at h1 <;> simp at h1 ⊢ <;> omega
theorem k15_in : In .f64 k15 1023 1024 := by unfold In; rw [binL]; decide +kernel
theorem k075_in : In .f64 k075 1022 1023 := by unfold In; rw [binL]; decide +kernel

theorem halv_step {y j : Nat} (h : In .f64 y 874 (1151 - j)) (hj : j ≤ 128) (hg : geB y k15 = true) :
    j < 128 ∧ In .f64 (fop .quo .f64 y kTwo) 874 (1151 - (j + 1)) ∧ halves (200 - j) y j = halves (200 - (j + 1)) (fop .quo .f64 y kTwo) (j + 1) := by
  have hb := ge_bits h (by omega) k15_in (by omega)
  rw [hg] at hb
  have hge : k15 ≤ y := of_decide_eq_true hb.symm
  have hk : k15 = 4609434218613702656 := by decide +kernel
  have h1 : In .f64 y 1023 (1151 - j) := ⟨by rw [binL]; omega, h.2⟩
  have hlt : j < 128 := by
    rcases Nat.lt_or_ge j 128 with h' | h'
    · exact h'
    · obtain rfl : j = 128 := by omega
      have := h.2
      rw [binL] at this
      omega
  refine ⟨hlt, ?_, ?_⟩
  · exact (in_quo (a := 1022) (b := 1150 - j) h1 two_in (by omega) (by omega) (by rw [b64]; omega) (by rw [b64]; omega) (by rw [b64]) (by rw [b64]; omega) (by omega) (by rw [b64]; omega)).weak (by omega) (by omega)
  · rw [show 200 - j = (200 - (j + 1)) + 1 by omega, halves_go hg]
theorem halv_stop {y j : Nat} (h : In .f64 y 874 (1151 - j)) (hg : geB y k15 = false) : In .f64 y 874 1024 := by
  have hb := ge_bits h (by omega) k15_in (by omega)
  rw [hg] at hb
  have hge : ¬ k15 ≤ y := of_decide_eq_false hb.symm
  have hk : k15 = 4609434218613702656 := by decide +kernel
  exact ⟨h.1, by rw [binL]; omega⟩
theorem doub_step {y i : Nat} (h : In .f64 y (874 + i) 1024) (hi : i ≤ 149) (hg : ltB y k075 = true) :
    i < 149 ∧ In .f64 (fop .mul .f64 y kTwo) (874 + (i + 1)) 1024 ∧ doubles (200 - i) y i = doubles (200 - (i + 1)) (fop .mul .f64 y kTwo) (i + 1) := by
  have hb := lt_bits h (by omega) k075_in (by omega)
  rw [hg] at hb
  have hge : y < k075 := of_decide_eq_true hb.symm
  have hk : k075 = 4604930618986332160 := by decide +kernel
  have h1 : In .f64 y (874 + i) 1023 := ⟨h.1, by rw [binL]; omega⟩
  have hlt : i < 149 := by
    rcases Nat.lt_or_ge i 149 with h' | h'
    · exact h'
    · obtain rfl : i = 149 := by omega
      have := h.1
      rw [binL] at this
      omega
  refine ⟨hlt, ?_, ?_⟩
  · exact in_mul (a := 874 + (i + 1)) (b := 1024) h1 two_in (by omega) (by omega) (by rw [b64]; omega) (by rw [b64]; omega) (by rw [b64]; omega) (by rw [b64]) (by omega) (by rw [b64]; omega)
  · rw [show 200 - i = (200 - (i + 1)) + 1 by omega, doubles_go hg]
theorem doub_stop {y i : Nat} (h : In .f64 y (874 + i) 1024) (hg : ltB y k075 = false) : In .f64 y 1022 1024 := by
  have hb := lt_bits h (by omega) k075_in (by omega)
  rw [hg] at hb
  have hge : ¬ y < k075 := of_decide_eq_false hb.symm
  have hk : k075 = 4604930618986332160 := by decide +kernel
  exact ⟨by rw [binL]; omega, h.2⟩

/-- A whole number as a 64-bit one. -/
def kI (n : Int) : Nat := cn .f64 (floatOfInt .f64 n)
theorem kI_next : ∀ n : Nat, n < 300 → fop .add .f64 (kI ((n : Int) - 150)) kOne = kI ((n : Int) - 150 + 1) ∧ fop .sub .f64 (kI ((n : Int) - 150)) kOne = kI ((n : Int) - 150 - 1) ∧ (kI ((n : Int) - 150)) % 9223372036854775808 ≤ 1031 * 4503599627370496 ∧ kI ((n : Int) - 150) < 2 * 9223372036854775808 := by decide +kernel
theorem kI_up1 {v : Int} (h0 : -150 ≤ v) (h1 : v < 150) : fop .add .f64 (kI v) kOne = kI (v + 1) := by
  have := (kI_next (v + 150).toNat (by omega)).1
  rwa [show (((v + 150).toNat : Nat) : Int) - 150 = v by omega] at this
theorem kI_down1 {v : Int} (h0 : -150 ≤ v) (h1 : v < 150) : fop .sub .f64 (kI v) kOne = kI (v - 1) := by
  have := (kI_next (v + 150).toNat (by omega)).2.1
  rwa [show (((v + 150).toNat : Nat) : Int) - 150 = v by omega] at this
theorem up_bits {k : FloatKind} {b R : Nat} (h : b < 2 * k.format.signWeight) (hr : b % k.format.signWeight ≤ R * k.format.binade) : Up k b R := by
  obtain ⟨r, h1, h2⟩ := word_of k.format h
  refine ⟨_, r, h2, ?_⟩
  rw [h2, rung_word _ _ h1] at hr
  exact hr
theorem kI_Up {v : Int} (h0 : -150 ≤ v) (h1 : v < 150) : Up .f64 (kI v) 1031 := by
  obtain ⟨_, _, h2, h3⟩ := kI_next (v + 150).toNat (by omega)
  rw [show (((v + 150).toNat : Nat) : Int) - 150 = v by omega] at h2 h3
  exact up_bits (by rw [show FloatKind.f64.format.signWeight = 9223372036854775808 by decide]; exact h3) (by rw [show FloatKind.f64.format.signWeight = 9223372036854775808 by decide, binL]; exact h2)
/-- The terms' numbers: 25, 23, .., 1. -/
theorem ks_ok : ∀ t : Nat, t < 13 → fop .sub .f64 (kI (25 - 2 * (t : Int))) kTwo = kI (25 - 2 * ((t + 1 : Nat) : Int)) ∧ geB (kI (25 - 2 * (t : Int))) kOne = true ∧ (1023 * 4503599627370496 ≤ kI (25 - 2 * (t : Int)) ∧ kI (25 - 2 * (t : Int)) ≤ 1028 * 4503599627370496) := by decide +kernel
theorem ks_end : geB (kI (25 - 2 * ((13 : Nat) : Int))) kOne = false := by decide +kernel
def qs (u : Nat) : Nat → Nat
  | 0 => cn .f64 0
  | t + 1 => fop .add .f64 (fop .quo .f64 kOne (kI (25 - 2 * (t : Int)))) (fop .mul .f64 u (qs u t))
theorem zero_Up (R : Nat) : Up .f64 (cn .f64 0) R := ⟨false, 0, by decide +kernel, Nat.zero_le _⟩
theorem qs_Up {u : Nat} (hu : Up .f64 u 1029) : ∀ t, t ≤ 13 → Up .f64 (qs u t) (1023 + 7 * t)
  | 0, _ => zero_Up _
  | t + 1, ht => by
    obtain ⟨_, _, hk⟩ := ks_ok t (by omega)
    have hkI : In .f64 (kI (25 - 2 * (t : Int))) 1023 1028 := by unfold In; rw [binL]; exact hk
    have h1 : Up .f64 (fop .quo .f64 kOne (kI (25 - 2 * (t : Int)))) 1023 := up_quo (R1 := 1023) (R2 := 1023) one_in.up (hkI.lo (by rw [b64]; omega)) (by omega) (by omega) (by rw [b64]; omega) (by rw [b64]) (by omega)
    have h2 : Up .f64 (fop .mul .f64 u (qs u t)) (1023 + 7 * t + 6) := up_mul (R1 := 1029) (R2 := 1023 + 7 * t) hu (qs_Up hu t (by omega)) (by omega) (by omega) (by rw [b64]; omega) (by rw [b64]; omega) (by rw [b64]; omega) (by omega)
    exact (up_add (h1.weak (show 1023 ≤ 1023 + 7 * t + 6 by omega)) h2 (by omega) (by rw [b64]; omega)).weak (by omega)
/-- What the reduced number gives. -/
def lnZ (z : Nat) (e : Int) : Nat :=
  let s := fop .quo .f64 (fop .sub .f64 z kOne) (fop .add .f64 z kOne)
  fop .add .f64 (fop .mul .f64 kTwo (fop .mul .f64 s (qs (fop .mul .f64 s s) 13))) (fop .mul .f64 (kI e) kLn2)
theorem lnZ_fit {z : Nat} {e : Int} (h : In .f64 z 1022 1024) (h0 : -150 ≤ e) (h1 : e < 150) : nfit (lnZ z e) = true := by
  have one1 : Up .f64 kOne 1024 := one_in.up.weak (by omega)
  have hs : Up .f64 (fop .quo .f64 (fop .sub .f64 z kOne) (fop .add .f64 z kOne)) 1026 := by
    have h2 : Up .f64 (fop .sub .f64 z kOne) 1025 := up_sub h.up one1 (by omega) (by rw [b64]; omega)
    have h3 : In .f64 (fop .add .f64 z kOne) 1022 1025 := in_add h (one_in.weak (Nat.le_refl _) (by omega)) (by omega) (by omega) (by rw [b64]; omega)
    exact up_quo (R1 := 1025) (R2 := 1022) (R := 1026) h2 (h3.lo (by rw [b64]; omega)) (by omega) (by omega) (by rw [b64]; omega) (by rw [b64]) (by omega)
  unfold lnZ
  generalize fop .quo .f64 (fop .sub .f64 z kOne) (fop .add .f64 z kOne) = s at *
  have hu : Up .f64 (fop .mul .f64 s s) 1029 := up_mul hs hs (by omega) (by omega) (by rw [b64]; omega) (by rw [b64]; omega) (by rw [b64]) (by omega)
  have hq := qs_Up hu 13 (Nat.le_refl _)
  have h3 : Up .f64 (fop .mul .f64 s (qs (fop .mul .f64 s s) 13)) 1117 := up_mul (R1 := 1026) (R2 := 1114) hs hq (by omega) (by omega) (by rw [b64]; omega) (by rw [b64]; omega) (by rw [b64]) (by omega)
  have h4 : Up .f64 (fop .mul .f64 kTwo (fop .mul .f64 s (qs (fop .mul .f64 s s) 13))) 1118 := up_mul (R1 := 1024) (R2 := 1117) two_in.up h3 (by omega) (by omega) (by rw [b64]; omega) (by rw [b64]; omega) (by rw [b64]) (by omega)
  have ln2 : Up .f64 kLn2 1023 := up_bits (by rw [show FloatKind.f64.format.signWeight = 9223372036854775808 by decide]; decide +kernel) (by rw [show FloatKind.f64.format.signWeight = 9223372036854775808 by decide, binL]; decide +kernel)
  have h5 : Up .f64 (fop .mul .f64 (kI e) kLn2) 1031 := up_mul (R1 := 1031) (R2 := 1023) (kI_Up h0 h1) ln2 (by omega) (by omega) (by rw [b64]; omega) (by rw [b64]; omega) (by rw [b64]) (by omega)
  exact (up_add h4 (h5.weak (by omega)) (by omega) (by rw [b64]; omega)).fit (by omega) (by omega)

/-- The logarithm of a positive number. -/
def lnW (x : Nat) : Nat :=
  let h := halves 200 x 0
  let d := doubles 200 h.1 0
  lnZ d.1 ((h.2 : Int) - (d.2 : Int))
end Go.Proofs.Ytamgekijihpgkaa
