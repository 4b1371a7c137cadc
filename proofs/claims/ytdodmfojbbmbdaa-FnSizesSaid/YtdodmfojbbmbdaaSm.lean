/- Lists of maps. -/
import Derived.Test.YtdodmfojbbmbdaaVs
import Derived.Test.YtdodmfojbbmbdaaPushK
namespace Go.Proofs.Ytdodmfojbbmbdaa
open Go.RowKit Ieee

/-- The cells of a map. -/
def sc (S : SmV) : List Value := [.complex .f32 S.tr S.ti, .complex .f32 S.sr S.si, .bool S.fl, .float .f32 S.sh]
/-- The slice at A reads as these maps. -/
def SRd (w : World) (A : Option Addr) (Ss : List SmV) : Prop :=
  ∀ (i : Nat) (S : SmV), Ss[i]? = some S → ∃ b o, A = some ⟨b, o, none⟩ ∧ b < w.heap.size ∧ w.cell? ⟨b, o + i * 4, none⟩ = some (.complex .f32 S.tr S.ti) ∧ w.cell? ⟨b, o + i * 4 + 1, none⟩ = some (.complex .f32 S.sr S.si) ∧ w.cell? ⟨b, o + i * 4 + 2, none⟩ = some (.bool S.fl) ∧ w.cell? ⟨b, o + i * 4 + 3, none⟩ = some (.float .f32 S.sh)
theorem SRd.keep {T : Nat → Prop} {w w' : World} {A : Option Addr} {Ss : List SmV} (h : SRd w A Ss) (k : Keep T w w') (hA : ∀ b o, A = some ⟨b, o, none⟩ → ¬ T b) : SRd w' A Ss := fun i S hi => by
  obtain ⟨b, o, e, hb, c0, c1, c2, c3⟩ := h i S hi
  have hx := k.block b hb (hA b o e)
  exact ⟨b, o, e, Nat.lt_of_lt_of_le hb k.size, (World.cell?_of_block (w := w) hx).trans c0, (World.cell?_of_block (w := w) hx).trans c1, (World.cell?_of_block (w := w) hx).trans c2, (World.cell?_of_block (w := w) hx).trans c3⟩
theorem SRd.below {w w' : World} {A : Option Addr} {Ss : List SmV} (h : SRd w A Ss) (k : Below w.heap.size w w') : SRd w' A Ss := h.keep (Keep.of_below (S := fun _ => False) k) (fun _ _ _ => id)
theorem flat_get4 : ∀ {Ss : List SmV} {i : Nat} {S : SmV}, Ss[i]? = some S → (Ss.flatMap sc)[i * 4]? = some (.complex .f32 S.tr S.ti) ∧ (Ss.flatMap sc)[i * 4 + 1]? = some (.complex .f32 S.sr S.si) ∧ (Ss.flatMap sc)[i * 4 + 2]? = some (.bool S.fl) ∧ (Ss.flatMap sc)[i * 4 + 3]? = some (.float .f32 S.sh)
  | [], i, S, h => by simp at h
  | x :: l, 0, S, h => by
    obtain rfl : x = S := by simpa using h
    simp [sc]
  | x :: l, i + 1, S, h => by
    obtain ⟨h1, h2, h3, h4⟩ := flat_get4 (Ss := l) (i := i) (S := S) (by simpa using h)
    have e : (i + 1) * 4 = i * 4 + 1 + 1 + 1 + 1 := by omega
    rw [List.flatMap_cons, e]
    exact ⟨by simpa [sc] using h1, by simpa [sc] using h2, by simpa [sc] using h3, by simpa [sc] using h4⟩
theorem own_srd {w : World} {B : Nat} {v : Value} {l : List SmV} (h : w.ownsRow B 34 4 v l.length (l.flatMap sc)) : ∃ A c, v = .slice A l.length c ∧ SRd w A l := by
  rcases h.2 with ⟨rfl, h0⟩ | ⟨g, cap, cur, rfl, hB, hg, _⟩
  · have : l = [] := List.length_eq_zero_iff.1 h0
    subst this
    exact ⟨none, 0, rfl, fun i r h => by simp at h⟩
  · refine ⟨_, _, rfl, fun i r hi => ⟨g, 0, rfl, (Array.getElem?_eq_some_iff.1 hg).1, ?_⟩⟩
    have hc := h.cells (g := g) rfl
    obtain ⟨e0, e1, e2, e3⟩ := flat_get4 hi
    have c0 := hc _ _ e0
    have c1 := hc _ _ e1
    have c2 := hc _ _ e2
    have c3 := hc _ _ e3
    rw [Addr.add_lit] at c0 c1 c2 c3
    exact ⟨c0, c1, c2, c3⟩
/-- The sum of like shares. -/
def shN (u : Nat) : Nat → Nat
  | 0 => 0
  | k + 1 => fop .add .f32 (shN u k) u
def shOk (u n : Nat) : Bool := (List.range n).all (fun k => floatBits .add .f32 (shN u k) u == some (shN u (k + 1))) && (floatBits .sub .f32 (shN u n) 1065353216 == some (fop .sub .f32 (shN u n) 1065353216)) && szB (fop .sub .f32 (shN u n) 1065353216) && leK .f32 (cn .f32 (szV (fop .sub .f32 (shN u n) 1065353216))) (cn .f32 981668463)
structure SmL (Ss : List SmV) (u : Nat) : Prop where
  pos : 1 ≤ Ss.length
  few : Ss.length ≤ 5
  all : ∀ S ∈ Ss, vsB S = true ∧ S.sh = u
  sum : shOk u Ss.length = true
theorem SmL.step {Ss : List SmV} {u : Nat} (h : SmL Ss u) {k : Nat} (hk : k < Ss.length) : (∀ w, fres .add .f32 (shN u k) u w = shN u (k + 1)) ∧ fdr .add .f32 (shN u k) u = 0 := by
  have hs := h.sum
  unfold shOk at hs
  simp only [Bool.and_eq_true, List.all_eq_true] at hs
  have := hs.1.1.1 k (List.mem_range.2 hk)
  exact det_some (by simpa using this)
set_option maxHeartbeats 2000000 in
theorem areSmalls_any (A : Option Addr) (c : Nat) (Ss : List SmV) (u : Nat) (w : World) (hA : SRd w A Ss) (H : SmL Ss u) : Calls Try.prog 17 #[.slice A Ss.length c] w fun e w' => e = .returned (.bool true) ∧ Below w.heap.size w w' := by
  have hp := H.pos
  have hf := H.few
  have hs := H.sum
  unfold shOk leK at hs
  simp only [Bool.and_eq_true, beq_iff_eq] at hs
  obtain ⟨⟨⟨_, s1⟩, s2⟩, s3⟩ := hs
  obtain ⟨t1, t2⟩ := det_some s1
  have SZ := fun w => size_any _ s2 w
  obtain ⟨d, hd⟩ : ∃ d, d = fop .sub .f32 (shN u Ss.length) 1065353216 := ⟨_, rfl⟩
  rw [← hd] at t1 SZ s3
  obtain ⟨z, hz⟩ : ∃ z, z = szV d := ⟨_, rfl⟩
  rw [← hz] at SZ s3
  clear hz hd s1 s2
  have h1 : ¬ (Ss.length : Int) < 1 := by omega
  have h8 : ¬ (8 : Int) < Ss.length := by omega
  have dz : ∀ v : World, v.drewN 0 = v := fun _ => rfl
  go_enter Try.func17, Try.ntmps17
  go_wp2_with fail
  go_loopw [3, 16] (fun sv iv wr => ∃ k : Nat, k ≤ Ss.length ∧ sv = .float .f32 (shN u k) ∧ iv = .int .i64 k ∧ Hid (Below w.heap.size w wr)) (fun _ iv _ => Ss.length - (intOf iv).toNat)
  case atStart => exact ⟨0, by omega, rfl, rfl, Lib.hid (Below.refl _ _)⟩
  case round =>
    obtain ⟨k, hk, rfl, rfl, HK⟩ := hrel
    have hAr := hA.below HK.out
    by_cases hlt : k < Ss.length
    · obtain ⟨b, o, rfl, hb, c0, c1, c2, c3⟩ := hAr k Ss[k] (by simp [hlt])
      obtain ⟨v1, v2⟩ := H.all Ss[k] (List.getElem_mem hlt)
      obtain ⟨x1, x2⟩ := H.step hlt
      have VS := fun w => validSmall_any Ss[k] v1 w
      obtain ⟨S, hS⟩ : ∃ S, S = Ss[k] := ⟨_, rfl⟩
      rw [← hS] at c0 c1 c2 c3 v2 VS
      clear hS v1
      unfold smv at VS
      rw [v2] at c3 VS
      clear v2
      have hkI : (k : Int) < Ss.length := by omega
      have h5 : Ss.length ≤ 5 := hf
      go_wp2_with fail
      refine (VS _).mono ?_
      rintro e w2 ⟨rfl, k2⟩
      have z2 : wr.heap.size < w2.heap.size := by have := k2.size; simp at this; omega
      have e3 : w2.cell? ⟨wr.heap.size, 3, none⟩ = some (.float .f32 u) := (k2.cell (by simp)).trans (by simp)
      have K2 := Lib.hid (Below.step HK.out (Below.step (below_alloc _ _) k2))
      clear k2 VS
      go_wp2_with fail
      go_roundw
      case rel => exact ⟨k + 1, by omega, rfl, by go_num, K2⟩
      case measure => simp [intOf]; omega
    · obtain rfl : k = Ss.length := by omega
      go_wp2_with fail
      refine (SZ _).mono ?_
      rintro e w2 ⟨rfl, rfl⟩
      go_wp2
      go_ret
      exact ⟨rfl, HK.out⟩
end Go.Proofs.Ytdodmfojbbmbdaa
