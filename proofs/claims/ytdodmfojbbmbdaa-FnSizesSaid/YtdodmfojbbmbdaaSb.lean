/- The other list, mixed maps, differences that are nothing. Plain. -/
import Derived.Test.YtdodmfojbbmbdaaSa
namespace Go.Proofs.Ytdodmfojbbmbdaa
open Go.RowKit Ieee

theorem othL_get {Ss : List SmV} {n i : Nat} (h : i < (othL Ss n).length) (hn : n = Ss.length) : ∃ (h1 : i < Ss.length) (h2 : Ss.length - 1 - i < Ss.length), (othL Ss n)[i] = othS Ss[i] Ss[Ss.length - 1 - i] := by
  rw [othL_len] at h
  have h1 : i < Ss.length := by omega
  have h2 : Ss.length - 1 - i < Ss.length := by omega
  refine ⟨h1, h2, ?_⟩
  have hx : (othL Ss n)[i]? = some (othS Ss[i] Ss[Ss.length - 1 - i]) := by
    unfold othL
    rw [List.getElem?_map, List.getElem?_range h, Option.map_some, List.getD_eq_getElem?_getD, List.getD_eq_getElem?_getD, List.getElem?_eq_getElem h1, List.getElem?_eq_getElem h2]
    rfl
  rw [List.getElem?_eq_getElem (by rw [othL_len]; exact h)] at hx
  exact Option.some.inj hx
theorem othS_pair {S T : SmV} {n : Nat} (a : DSm S n) (b : DSm T n) : DPair S (othS S T) n := ⟨a, ⟨b.tr, b.ti, b.sr, b.si, b.sh⟩, by unfold othS; exact Eq.refl _⟩
theorem oth_pair {Ss : List SmV} (h : ∀ S ∈ Ss, DSm S Ss.length) {i : Nat} (h1 : i < Ss.length) (h2 : i < (othL Ss Ss.length).length) : DPair Ss[i] (othL Ss Ss.length)[i] Ss.length := by
  obtain ⟨_, h3, e⟩ := othL_get h2 rfl
  rw [e]
  exact othS_pair (h _ (List.getElem_mem h1)) (h _ (List.getElem_mem h3))
theorem oth_smL {Ss : List SmV} (h : ∀ S ∈ Ss, DSm S Ss.length) (h6 : Ss.length < 6) (h0 : 0 < Ss.length) : SmL (othL Ss Ss.length) (uN Ss.length) := by
  have hs := j_share _ h6 h0
  rw [Bool.and_eq_true] at hs
  refine ⟨by rw [othL_len]; exact h0, by rw [othL_len]; omega, fun T hT => ?_, by rw [othL_len]; exact hs.1⟩
  obtain ⟨i, hi, rfl⟩ := List.getElem_of_mem hT
  have hi' : i < Ss.length := by rw [othL_len] at hi; exact hi
  have P := oth_pair h hi' hi
  exact ⟨P.b.valid h6 h0, P.b.sh⟩
theorem mix_smL {Ss : List SmV} (h : ∀ S ∈ Ss, DSm S Ss.length) (h6 : Ss.length < 6) (h0 : 0 < Ss.length) {s : Nat} (hs9 : s < 9) : SmL (mixL (q8 (s : Int)) Ss (othL Ss Ss.length)) (uN Ss.length) := by
  have hs := j_share _ h6 h0
  rw [Bool.and_eq_true] at hs
  have hl : (mixL (q8 (s : Int)) Ss (othL Ss Ss.length)).length = Ss.length := by unfold mixL; rw [List.length_zipWith, othL_len]; omega
  refine ⟨by rw [hl]; exact h0, by rw [hl]; omega, fun T hT => ?_, by rw [hl]; exact hs.1⟩
  obtain ⟨i, hi, rfl⟩ := List.getElem_of_mem hT
  have hi' : i < Ss.length := by omega
  have h2 : i < (othL Ss Ss.length).length := by rw [othL_len]; exact hi'
  have P := oth_pair h hi' h2
  have e : (mixL (q8 (s : Int)) Ss (othL Ss Ss.length))[i] = mixS (q8 (s : Int)) Ss[i] (othL Ss Ss.length)[i] := List.getElem_zipWith
  rw [e]
  exact (P.mx hs9 h6 h0).2
theorem mix_all {Ss : List SmV} (h : ∀ S ∈ Ss, DSm S Ss.length) (h6 : Ss.length < 6) (h0 : 0 < Ss.length) {s : Nat} (hs9 : s < 9) : ∀ i (h1 : i < Ss.length) (h2 : i < (othL Ss Ss.length).length), MxS (q8 (s : Int)) Ss[i] (othL Ss Ss.length)[i] :=
  fun _ h1 h2 => ((oth_pair h h1 h2).mx hs9 h6 h0).1
/-- Nothing, with either sign: its length. -/
theorem zero_long : ∀ a ∈ [0, 2147483648], ∀ b ∈ [0, 2147483648], (lgB a b && (lgV a b == 0)) = true := by decide +kernel
end Go.Proofs.Ytdodmfojbbmbdaa
