/- MixSmalls. -/
import Derived.Test.YtdodmfojbbmbdaaSz
import Derived.Test.YtdodmfojbbmbdaaPushZ
import Derived.Deep.AppendLies
import Derived.Deep.RegionLaw
import Derived.Deep.RegionHeld3
import Derived.BigRegion
namespace Go.Proofs.Ytdodmfojbbmbdaa
open Go.RowKit Ieee

structure MxD (a b s : Nat) : Prop where
  d : (∀ w, fres .sub .f32 b a w = fop .sub .f32 b a) ∧ fdr .sub .f32 b a = 0
  m : (∀ w, fres .mul .f32 s (fop .sub .f32 b a) w = fop .mul .f32 s (fop .sub .f32 b a)) ∧ fdr .mul .f32 s (fop .sub .f32 b a) = 0
  a : (∀ w, fres .add .f32 a (fop .mul .f32 s (fop .sub .f32 b a)) w = mixV a b s) ∧ fdr .add .f32 a (fop .mul .f32 s (fop .sub .f32 b a)) = 0
theorem mxD_of {a b s : Nat} (h : mixB a b s = true) : MxD a b s := by
  unfold mixB at h
  simp only [Bool.and_eq_true, beq_iff_eq] at h
  exact ⟨det_some h.1.1, det_some h.1.2, det_some h.2⟩
theorem mix_any (a b s : Nat) (h : MxD a b s) (w : World) : Calls Try.prog 28 #[.float .f32 a, .float .f32 b, .float .f32 s] w fun e w' => e = .returned (.float .f32 (mixV a b s)) ∧ w' = w := by
  obtain ⟨⟨d1, d2⟩, ⟨m1, m2⟩, a1, a2⟩ := h
  have dz : ∀ v : World, v.drewN 0 = v := fun _ => rfl
  go_enter Try.func28, Try.ntmps28
  go_wp2
  go_ret
  exact ⟨rfl, rfl⟩
theorem mixC_any (a b c d s : Nat) (h1 : MxD a c s) (h2 : MxD b d s) (w : World) : Calls Try.prog 27 #[.complex .f32 a b, .complex .f32 c d, .float .f32 s] w fun e w' => e = .returned (.complex .f32 (mixV a c s) (mixV b d s)) ∧ w' = w := by
  go_enter Try.func27, Try.ntmps27
  go_wp2_with fail
  refine (mix_any a c s h1 _).mono ?_
  rintro e w' ⟨rfl, rfl⟩
  go_wp2_with fail
  refine (mix_any b d s h2 _).mono ?_
  rintro e w' ⟨rfl, rfl⟩
  go_wp2
  go_ret
  exact ⟨rfl, rfl⟩
/-- A map between two. -/
def mixS (s : Nat) (S T : SmV) : SmV := ⟨mixV S.tr T.tr s, mixV S.ti T.ti s, mixV S.sr T.sr s, mixV S.si T.si s, S.fl, mixV S.sh T.sh s⟩
structure MxS (s : Nat) (S T : SmV) : Prop where
  tr : MxD S.tr T.tr s
  ti : MxD S.ti T.ti s
  sr : MxD S.sr T.sr s
  si : MxD S.si T.si s
  sh : MxD S.sh T.sh s
  fl : S.fl = T.fl
theorem info.small : (Try.prog.info? 34).map (fun i => (i.zero, i.size, i.bytes)) = some (some (.agg #[.complex .f32 0 0, .complex .f32 0 0, .bool false, .float .f32 0]), 4, 24) := by kernel_rfl
def mixL (s : Nat) (Ss Ts : List SmV) : List SmV := List.zipWith (mixS s) Ss Ts
set_option maxHeartbeats 4000000 in
theorem mixSmalls_any (A B : Option Addr) (c d : Nat) (Ss Ts : List SmV) (s u v x : Nat) (w : World) (hA : SRd w A Ss) (hB : SRd w B Ts) (HS : SmL Ss u) (HT : SmL Ts v) (hl : Ss.length = Ts.length) (hs : shareB s = true)
    (HM : ∀ i (h1 : i < Ss.length) (h2 : i < Ts.length), MxS s Ss[i] Ts[i]) (HX : SmL (mixL s Ss Ts) x) :
    Calls Try.prog 12 #[.slice A Ss.length c, .slice B Ts.length d, .float .f32 s] w fun e w' => ∃ A' c', e = .returned (.tuple #[.slice A' Ss.length c', .bool true]) ∧ SRd w' A' (mixL s Ss Ts) ∧ (∀ b o, A' = some ⟨b, o, none⟩ → w.heap.size ≤ b) ∧ Below w.heap.size w w' := by
  have hd : ((Ss.length : Int) != Ts.length) = false := by simp; omega
  have HLn := Lib.hid hl
  clear hl
  have hf := HS.few
  have hp := HS.pos
  obtain ⟨i0, hi0, hz0, hz1, hz2⟩ := info_parts info.small
  go_enter Try.func12, Try.ntmps12
  go_wp2_with fail
  refine (areSmalls_any A c Ss u w hA HS).mono ?_
  rintro e w1 ⟨rfl, k1⟩
  have hB1 := hB.below k1
  have K1 := Lib.hid k1
  clear k1
  go_wp2_with fail
  refine (areSmalls_any B d Ts v w1 hB1 HT).mono ?_
  rintro e w2 ⟨rfl, k2⟩
  have K2 := Lib.hid (Below.step K1.out k2)
  clear k2 K1 hB1
  go_wp2_with fail
  refine (isShare_any s hs _).mono ?_
  rintro e w3 ⟨rfl, rfl⟩
  go_wp2_with fail
  obtain ⟨b0, hb0⟩ : ∃ b, b = w3.heap.size := ⟨_, rfl⟩
  obtain ⟨w4, hw4⟩ : ∃ v, v = w3.alloc (.cells #[] 34) := ⟨_, rfl⟩
  have hO : Hid (w4.ownsRow b0 34 4 (.slice (some ⟨w3.heap.size, 0, none⟩) 0 0) 0 []) := Lib.hid (by rw [hw4, hb0]; exact World.ownsRow_made (e := 34) (size := 4) w3 #[] 0 (Nat.le_refl _) (Nat.zero_le _) rfl)
  have K4 : Hid (Below w.heap.size w w4) := Lib.hid (by rw [hw4]; exact Below.step K2.out (below_alloc _ _))
  have hz4 : b0 ≤ w4.heap.size := by rw [hw4, hb0]; simp
  have hwb : w.heap.size ≤ b0 := by rw [hb0]; exact K2.out.size
  rw [← hw4]
  clear hw4 hb0 K2
  go_loopw [8, 35] (fun ov iv wr => ∃ (i : Nat), i ≤ Ss.length ∧ iv = .int .i64 i ∧ Hid (wr.ownsRow b0 34 4 ov i (((mixL s Ss Ts).take i).flatMap sc)) ∧ Hid (Below w.heap.size w wr) ∧ b0 ≤ wr.heap.size) (fun _ iv _ => Ss.length - (intOf iv).toNat)
  case atStart => exact ⟨0, by omega, rfl, hO, K4, hz4⟩
  case round =>
    clear hO K4 hz4
    obtain ⟨i, hi, rfl, HO, HK, hbz⟩ := hrel
    by_cases hlt : i < Ss.length
    · have hlt2 : i < Ts.length := by rw [← HLn.out]; exact hlt
      obtain ⟨b, o, rfl, hb, c0, c1, c2, c3⟩ := (hA.below HK.out) i Ss[i] (by simp [hlt])
      obtain ⟨b', o', rfl, hb', d0, d1, d2, d3⟩ := (hB.below HK.out) i Ts[i] (by simp [hlt2])
      have M := HM i hlt hlt2
      have hne : Hid ((mixL s Ss Ts).take (i + 1) = (mixL s Ss Ts).take i ++ [mixS s Ss[i] Ts[i]]) := Lib.hid (by
        have hz : i < (mixL s Ss Ts).length := by unfold mixL; rw [List.length_zipWith]; omega
        rw [List.take_succ_eq_append_getElem hz]
        have e : (mixL s Ss Ts)[i] = mixS s Ss[i] Ts[i] := List.getElem_zipWith
        rw [e])
      obtain ⟨S, hS⟩ : ∃ S, S = Ss[i] := ⟨_, rfl⟩
      obtain ⟨T, hT⟩ : ∃ S, S = Ts[i] := ⟨_, rfl⟩
      rw [← hS] at c0 c1 c2 c3 M hne
      rw [← hT] at d0 d1 d2 d3 M hne
      clear hS hT
      have mf := M.fl
      rw [← mf] at d2
      have HM1 := Lib.hid M
      clear M mf
      have hiI : (i : Int) < Ss.length := by omega
      have hiJ : (i : Int) < Ts.length := by omega
      go_wp2_with fail
      obtain ⟨wv, hwv⟩ : ∃ v, v = (wr.alloc (.cells #[.complex .f32 S.tr S.ti, .complex .f32 S.sr S.si, .bool S.fl, .float .f32 S.sh] 34)).alloc (.cells #[.complex .f32 T.tr T.ti, .complex .f32 T.sr T.si, .bool S.fl, .float .f32 T.sh] 34) := ⟨_, rfl⟩
      rw [← hwv]
      have kv : Below wr.heap.size wr wv := by rw [hwv]; exact Below.step (below_alloc _ _) (below_alloc _ _)
      have zv : wv.heap.size = wr.heap.size + 2 := by rw [hwv]; simp
      have e0 : wv.cell? ⟨wr.heap.size, 0, none⟩ = some (.complex .f32 S.tr S.ti) := by rw [hwv]; simp
      have e1 : wv.cell? ⟨wr.heap.size, 1, none⟩ = some (.complex .f32 S.sr S.si) := by rw [hwv]; simp
      have e2 : wv.cell? ⟨wr.heap.size, 2, none⟩ = some (.bool S.fl) := by rw [hwv]; simp
      have e3 : wv.cell? ⟨wr.heap.size, 3, none⟩ = some (.float .f32 S.sh) := by rw [hwv]; simp
      have g0 : wv.cell? ⟨wr.heap.size + 1, 0, none⟩ = some (.complex .f32 T.tr T.ti) := by rw [hwv]; simp
      have g1 : wv.cell? ⟨wr.heap.size + 1, 1, none⟩ = some (.complex .f32 T.sr T.si) := by rw [hwv]; simp
      have g3 : wv.cell? ⟨wr.heap.size + 1, 3, none⟩ = some (.float .f32 T.sh) := by rw [hwv]; simp
      have C1 := fun w => mixC_any S.tr S.ti T.tr T.ti s HM1.out.tr HM1.out.ti w
      have C2 := fun w => mixC_any S.sr S.si T.sr T.si s HM1.out.sr HM1.out.si w
      have C3 := fun w => mix_any S.sh T.sh s HM1.out.sh w
      obtain ⟨N, hN⟩ : ∃ N, N = mixS s S T := ⟨_, rfl⟩
      have y1 : N.tr = mixV S.tr T.tr s := by rw [hN]; rfl
      have y2 : N.ti = mixV S.ti T.ti s := by rw [hN]; rfl
      have y3 : N.sr = mixV S.sr T.sr s := by rw [hN]; rfl
      have y4 : N.si = mixV S.si T.si s := by rw [hN]; rfl
      have y5 : N.sh = mixV S.sh T.sh s := by rw [hN]; rfl
      have y6 : N.fl = S.fl := by rw [hN]; rfl
      rw [← y1, ← y2] at C1
      rw [← y3, ← y4] at C2
      rw [← y5] at C3
      rw [← y6] at e2
      rw [← hN] at hne
      clear hwv c0 c1 c2 c3 d0 d1 d2 d3 hN y1 y2 y3 y4 y5 y6 HM1
      have hown := HO.out
      have kv2 := Lib.hid kv
      have ne1 : some wr.heap.size ≠ u8.ownBlock := fun e => by have := (hown.lt _ e.symm).2; omega
      have ne2 : some (wr.heap.size + 1) ≠ u8.ownBlock := fun e => by have := (hown.lt _ e.symm).2; omega
      have hi5 : i ≤ 5 := by omega
      have hbz2 : b0 ≤ wv.heap.size := by omega
      have zv1 : wr.heap.size < wv.heap.size := by omega
      have zv2 : wr.heap.size + 1 < wv.heap.size := by omega
      clear zv
      first | refine wp_region_noPanic ?_ | skip
      refine wp_region_held_drew (S := fun v => v.cell? ⟨wr.heap.size, 0, none⟩ = some (.complex .f32 S.tr S.ti) ∧ v.cell? ⟨wr.heap.size, 1, none⟩ = some (.complex .f32 S.sr S.si) ∧ v.cell? ⟨wr.heap.size, 2, none⟩ = some (.bool N.fl) ∧ v.cell? ⟨wr.heap.size, 3, none⟩ = some (.float .f32 S.sh) ∧ v.cell? ⟨wr.heap.size + 1, 0, none⟩ = some (.complex .f32 T.tr T.ti) ∧ v.cell? ⟨wr.heap.size + 1, 1, none⟩ = some (.complex .f32 T.sr T.si) ∧ v.cell? ⟨wr.heap.size + 1, 3, none⟩ = some (.float .f32 T.sh)) (by kernel_rfl) (⟨e0, e1, e2, e3, g0, g1, g3⟩) (fun hHeld => ?_)
      refine wpAnyH_take (i := 0) (oi := ?oi0A) (v := ?v0A) ?hi0A (by kernel_rfl) (by kernel_rfl) (by kernel_rfl) (fun _ _ _ h => h) (Or.inl ⟨?hw0A, ?hy0A⟩) hHeld ?rest0A
      case hi0A => (simp only [List.getElem?_toArray, List.getElem?_cons_zero]; rfl)
      case hw0A => (first | rfl | (simp [Region.wanted, yielded]; done))
      case hy0A => (intro w hSw; (try dsimp only at hSw); go_simp; try first | with_reducible rfl | (refine ⟨?_, rfl⟩; with_reducible rfl))
      try simp only [Act.put, List.setIfInBounds_toArray, List.set_cons_zero, List.set_cons_succ]
      refine wpAnyH_take (i := 1) (oi := ?oi1A) (v := ?v1A) ?hi1A (by kernel_rfl) (by kernel_rfl) (by kernel_rfl) (fun _ _ _ h => h) (Or.inl ⟨?hw1A, ?hy1A⟩) hHeld ?rest1A
      case hi1A => (simp only [List.getElem?_toArray, List.getElem?_cons_succ, List.getElem?_cons_zero]; rfl)
      case hw1A => (first | rfl | (simp [Region.wanted, yielded]; done))
      case hy1A => (intro w hSw; (try dsimp only at hSw); go_simp; try first | with_reducible rfl | (refine ⟨?_, rfl⟩; with_reducible rfl))
      try simp only [Act.put, List.setIfInBounds_toArray, List.set_cons_zero, List.set_cons_succ]
      refine wpAnyH_take (i := 2) (oi := ?oi2A) (v := ?v2A) ?hi2A (by kernel_rfl) (by kernel_rfl) (by kernel_rfl) (fun _ _ _ h => h) (Or.inl ⟨?hw2A, ?hy2A⟩) hHeld ?rest2A
      case hi2A => (simp only [List.getElem?_toArray, List.getElem?_cons_succ, List.getElem?_cons_zero]; rfl)
      case hw2A => (first | rfl | (simp [Region.wanted, yielded]; done))
      case hy2A => (intro w hSw; (try dsimp only at hSw); go_simp; try first | with_reducible rfl | (refine ⟨?_, rfl⟩; with_reducible rfl))
      try simp only [Act.put, List.setIfInBounds_toArray, List.set_cons_zero, List.set_cons_succ]
      refine wpAnyH_take (i := 3) (oi := ?oi3A) (v := ?v3A) ?hi3A (by kernel_rfl) (by kernel_rfl) (by kernel_rfl) (fun _ _ _ h => h) (Or.inl ⟨?hw3A, ?hy3A⟩) hHeld ?rest3A
      case hi3A => (simp only [List.getElem?_toArray, List.getElem?_cons_succ, List.getElem?_cons_zero]; rfl)
      case hw3A => (first | rfl | (simp [Region.wanted, yielded]; done))
      case hy3A => (intro w hSw; (try dsimp only at hSw); go_simp; try first | with_reducible rfl | (refine ⟨?_, rfl⟩; with_reducible rfl))
      try simp only [Act.put, List.setIfInBounds_toArray, List.set_cons_zero, List.set_cons_succ]
      refine wpAnyH_take (i := 4) (oi := ?oi4A) (v := ?v4A) ?hi4A (by kernel_rfl) (by kernel_rfl) (by kernel_rfl) (fun _ _ _ h => h) (Or.inl ⟨?hw4A, ?hy4A⟩) hHeld ?rest4A
      case hi4A => (simp only [List.getElem?_toArray, List.getElem?_cons_succ, List.getElem?_cons_zero]; rfl)
      case hw4A => (first | rfl | (simp [Region.wanted, yielded]; done))
      case hy4A => (intro w hSw; (try dsimp only at hSw); go_simp; try first | with_reducible rfl | (refine ⟨?_, rfl⟩; with_reducible rfl))
      try simp only [Act.put, List.setIfInBounds_toArray, List.set_cons_zero, List.set_cons_succ]
      refine wpAnyH_take (i := 5) (oi := ?oi5A) (v := ?v5A) ?hi5A (by kernel_rfl) (by kernel_rfl) (by kernel_rfl) (fun _ _ _ h => h) (Or.inl ⟨?hw5A, ?hy5A⟩) hHeld ?rest5A
      case hi5A => (simp only [List.getElem?_toArray, List.getElem?_cons_succ, List.getElem?_cons_zero]; rfl)
      case hw5A => (first | rfl | (simp [Region.wanted, yielded]; done))
      case hy5A => (intro w hSw; (try dsimp only at hSw); go_simp; try first | with_reducible rfl | (refine ⟨?_, rfl⟩; with_reducible rfl))
      try simp only [Act.put, List.setIfInBounds_toArray, List.set_cons_zero, List.set_cons_succ]
      refine wpAnyH_take (i := 7) (oi := ?oi7A) (v := ?v7A) ?hi7A (by kernel_rfl) (by kernel_rfl) (by kernel_rfl) (fun _ _ _ h => h) (Or.inl ⟨?hw7A, ?hy7A⟩) hHeld ?rest7A
      case hi7A => (simp only [List.getElem?_toArray, List.getElem?_cons_succ, List.getElem?_cons_zero]; rfl)
      case hw7A => (first | rfl | (simp [Region.wanted, yielded]; done))
      case hy7A => (intro w hSw; (try dsimp only at hSw); go_simp; try first | with_reducible rfl | (refine ⟨?_, rfl⟩; with_reducible rfl))
      try simp only [Act.put, List.setIfInBounds_toArray, List.set_cons_zero, List.set_cons_succ]
      refine wpAnyH_take (i := 8) (oi := ?oi8A) (v := ?v8A) ?hi8A (by kernel_rfl) (by kernel_rfl) (by kernel_rfl) (fun _ _ _ h => h) (Or.inl ⟨?hw8A, ?hy8A⟩) hHeld ?rest8A
      case hi8A => (simp only [List.getElem?_toArray, List.getElem?_cons_succ, List.getElem?_cons_zero]; rfl)
      case hw8A => (first | rfl | (simp [Region.wanted, yielded]; done))
      case hy8A => (intro w hSw; (try dsimp only at hSw); go_simp; try first | with_reducible rfl | (refine ⟨?_, rfl⟩; with_reducible rfl))
      try simp only [Act.put, List.setIfInBounds_toArray, List.set_cons_zero, List.set_cons_succ]
      refine wpAnyH_take (i := 9) (oi := ?oi9A) (v := ?v9A) ?hi9A (by kernel_rfl) (by kernel_rfl) (by kernel_rfl) (fun _ _ _ h => h) (Or.inl ⟨?hw9A, ?hy9A⟩) hHeld ?rest9A
      case hi9A => (simp only [List.getElem?_toArray, List.getElem?_cons_succ, List.getElem?_cons_zero]; rfl)
      case hw9A => (first | rfl | (simp [Region.wanted, yielded]; done))
      case hy9A => (intro w hSw; (try dsimp only at hSw); go_simp; try first | with_reducible rfl | (refine ⟨?_, rfl⟩; with_reducible rfl))
      try simp only [Act.put, List.setIfInBounds_toArray, List.set_cons_zero, List.set_cons_succ]
      refine wpAnyH_take (i := 10) (oi := ?oi10A) (v := ?v10A) ?hi10A (by kernel_rfl) (by kernel_rfl) (by kernel_rfl) (fun _ _ _ h => h) (Or.inl ⟨?hw10A, ?hy10A⟩) hHeld ?rest10A
      case hi10A => (simp only [List.getElem?_toArray, List.getElem?_cons_succ, List.getElem?_cons_zero]; rfl)
      case hw10A => (first | rfl | (simp [Region.wanted, yielded]; done))
      case hy10A => (intro w hSw; (try dsimp only at hSw); go_simp; try first | with_reducible rfl | (refine ⟨?_, rfl⟩; with_reducible rfl))
      try simp only [Act.put, List.setIfInBounds_toArray, List.set_cons_zero, List.set_cons_succ]
      refine wpAnyH_take (i := 11) (oi := ?oi11A) (v := ?v11A) ?hi11A (by kernel_rfl) (by kernel_rfl) (by kernel_rfl) (fun _ _ _ h => h) (Or.inl ⟨?hw11A, ?hy11A⟩) hHeld ?rest11A
      case hi11A => (simp only [List.getElem?_toArray, List.getElem?_cons_succ, List.getElem?_cons_zero]; rfl)
      case hw11A => (first | rfl | (simp [Region.wanted, yielded]; done))
      case hy11A => (intro w hSw; (try dsimp only at hSw); go_simp; try first | with_reducible rfl | (refine ⟨?_, rfl⟩; with_reducible rfl))
      try simp only [Act.put, List.setIfInBounds_toArray, List.set_cons_zero, List.set_cons_succ]
      refine wpAnyH_take (i := 13) (oi := ?oi13A) (v := ?v13A) ?hi13A (by kernel_rfl) (by kernel_rfl) (by kernel_rfl) (fun _ _ _ h => h) (Or.inl ⟨?hw13A, ?hy13A⟩) hHeld ?rest13A
      case hi13A => (simp only [List.getElem?_toArray, List.getElem?_cons_succ, List.getElem?_cons_zero]; rfl)
      case hw13A => (first | rfl | (simp [Region.wanted, yielded]; done))
      case hy13A => (intro w hSw; (try dsimp only at hSw); go_simp; try first | with_reducible rfl | (refine ⟨?_, rfl⟩; with_reducible rfl))
      try simp only [Act.put, List.setIfInBounds_toArray, List.set_cons_zero, List.set_cons_succ]
      refine wpAnyH_take (i := 14) (oi := ?oi14A) (v := ?v14A) ?hi14A (by kernel_rfl) (by kernel_rfl) (by kernel_rfl) (fun _ _ _ h => h) (Or.inl ⟨?hw14A, ?hy14A⟩) hHeld ?rest14A
      case hi14A => (simp only [List.getElem?_toArray, List.getElem?_cons_succ, List.getElem?_cons_zero]; rfl)
      case hw14A => (first | rfl | (simp [Region.wanted, yielded]; done))
      case hy14A => (intro w hSw; (try dsimp only at hSw); go_simp; try first | with_reducible rfl | (refine ⟨?_, rfl⟩; with_reducible rfl))
      try simp only [Act.put, List.setIfInBounds_toArray, List.set_cons_zero, List.set_cons_succ]
      refine wpAnyH_take (i := 15) (oi := ?oi15A) (v := ?v15A) ?hi15A (by kernel_rfl) (by kernel_rfl) (by kernel_rfl) (fun _ _ _ h => h) (Or.inl ⟨?hw15A, ?hy15A⟩) hHeld ?rest15A
      case hi15A => (simp only [List.getElem?_toArray, List.getElem?_cons_succ, List.getElem?_cons_zero]; rfl)
      case hw15A => (first | rfl | (simp [Region.wanted, yielded]; done))
      case hy15A => (intro w hSw; (try dsimp only at hSw); go_simp; try first | with_reducible rfl | (refine ⟨?_, rfl⟩; with_reducible rfl))
      try simp only [Act.put, List.setIfInBounds_toArray, List.set_cons_zero, List.set_cons_succ]
      refine wpAnyH_take (i := 16) (oi := ?oi16A) (v := ?v16A) ?hi16A (by kernel_rfl) (by kernel_rfl) (by kernel_rfl) (fun _ _ _ h => h) (Or.inl ⟨?hw16A, ?hy16A⟩) hHeld ?rest16A
      case hi16A => (simp only [List.getElem?_toArray, List.getElem?_cons_succ, List.getElem?_cons_zero]; rfl)
      case hw16A => (first | rfl | (simp [Region.wanted, yielded]; done))
      case hy16A => (intro w hSw; (try dsimp only at hSw); go_simp; try first | with_reducible rfl | (refine ⟨?_, rfl⟩; with_reducible rfl))
      try simp only [Act.put, List.setIfInBounds_toArray, List.set_cons_zero, List.set_cons_succ]
      refine wpAnyH_take (i := 17) (oi := ?oi17A) (v := ?v17A) ?hi17A (by kernel_rfl) (by kernel_rfl) (by kernel_rfl) (fun _ _ _ h => h) (Or.inl ⟨?hw17A, ?hy17A⟩) hHeld ?rest17A
      case hi17A => (simp only [List.getElem?_toArray, List.getElem?_cons_succ, List.getElem?_cons_zero]; rfl)
      case hw17A => (first | rfl | (simp [Region.wanted, yielded]; done))
      case hy17A => (intro w hSw; (try dsimp only at hSw); go_simp; try first | with_reducible rfl | (refine ⟨?_, rfl⟩; with_reducible rfl))
      try simp only [Act.put, List.setIfInBounds_toArray, List.set_cons_zero, List.set_cons_succ]
      refine wpAnyH_take (i := 18) (oi := ?oi18A) (v := ?v18A) ?hi18A (by kernel_rfl) (by kernel_rfl) (by kernel_rfl) (fun _ _ _ h => h) (Or.inl ⟨?hw18A, ?hy18A⟩) hHeld ?rest18A
      case hi18A => (simp only [List.getElem?_toArray, List.getElem?_cons_succ, List.getElem?_cons_zero]; rfl)
      case hw18A => (first | rfl | (simp [Region.wanted, yielded]; done))
      case hy18A => (intro w hSw; (try dsimp only at hSw); go_simp; try first | with_reducible rfl | (refine ⟨?_, rfl⟩; with_reducible rfl))
      try simp only [Act.put, List.setIfInBounds_toArray, List.set_cons_zero, List.set_cons_succ]
      refine wpAnyH_take (i := 19) (oi := ?oi19A) (v := ?v19A) ?hi19A (by kernel_rfl) (by kernel_rfl) (by kernel_rfl) (fun _ _ _ h => h) (Or.inl ⟨?hw19A, ?hy19A⟩) hHeld ?rest19A
      case hi19A => (simp only [List.getElem?_toArray, List.getElem?_cons_succ, List.getElem?_cons_zero]; rfl)
      case hw19A => (first | rfl | (simp [Region.wanted, yielded]; done))
      case hy19A => (intro w hSw; (try dsimp only at hSw); go_simp; try first | with_reducible rfl | (refine ⟨?_, rfl⟩; with_reducible rfl))
      try simp only [Act.put, List.setIfInBounds_toArray, List.set_cons_zero, List.set_cons_succ]
      refine wpAnyH_ready (rs := [6]) (by kernel_rfl) (by simp) ?_
      refine (AllReadyH.cons rfl (fun K hK => ?_) AllReadyH.nil)
      go_simp
      refine (C1 _).mono ?_
      rintro e w6 ⟨rfl, rfl⟩
      refine hK.out _ _ (hHeld) (fun hHeld => ?_)
      clear hK K
      try simp only [Act.put, List.setIfInBounds_toArray, List.set_cons_zero, List.set_cons_succ]
      refine wpAnyH_ready (rs := [12]) (by kernel_rfl) (by simp) ?_
      refine (AllReadyH.cons rfl (fun K hK => ?_) AllReadyH.nil)
      go_simp
      refine (C2 _).mono ?_
      rintro e w6 ⟨rfl, rfl⟩
      refine hK.out _ _ (hHeld) (fun hHeld => ?_)
      clear hK K
      try simp only [Act.put, List.setIfInBounds_toArray, List.set_cons_zero, List.set_cons_succ]
      refine wpAnyH_ready (rs := [20]) (by kernel_rfl) (by simp) ?_
      refine (AllReadyH.cons rfl (fun K hK => ?_) AllReadyH.nil)
      go_simp
      refine (C3 _).mono ?_
      rintro e w6 ⟨rfl, rfl⟩
      refine hK.out _ _ (hHeld) (fun hHeld => ?_)
      clear hK K
      try simp only [Act.put, List.setIfInBounds_toArray, List.set_cons_zero, List.set_cons_succ]
      refine wpAnyH_ready (rs := [21]) (by kernel_rfl) (by simp) ?_
      refine (AllReadyH.cons rfl (fun K hK => ?_) AllReadyH.nil)
      go_simp
      refine hK.out _ _ (hHeld) (fun hHeld => ?_)
      clear hK K
      try simp only [Act.put, List.setIfInBounds_toArray, List.set_cons_zero, List.set_cons_succ]
      refine wpAnyH_ready (rs := [22]) (by kernel_rfl) (by simp) ?_
      refine (AllReadyH.cons rfl (fun K hK => ?_) AllReadyH.nil)
      go_simp
      refine hK.out _ _ (by obtain ⟨h0, h1, h2, h3, h4, h5, h6⟩ := hHeld; exact ⟨(Below.cell (below_alloc _ _) (p := ⟨wr.heap.size, 0, none⟩) zv1).trans h0, (Below.cell (below_alloc _ _) (p := ⟨wr.heap.size, 1, none⟩) zv1).trans h1, (Below.cell (below_alloc _ _) (p := ⟨wr.heap.size, 2, none⟩) zv1).trans h2, (Below.cell (below_alloc _ _) (p := ⟨wr.heap.size, 3, none⟩) zv1).trans h3, (Below.cell (below_alloc _ _) (p := ⟨wr.heap.size + 1, 0, none⟩) zv2).trans h4, (Below.cell (below_alloc _ _) (p := ⟨wr.heap.size + 1, 1, none⟩) zv2).trans h5, (Below.cell (below_alloc _ _) (p := ⟨wr.heap.size + 1, 3, none⟩) zv2).trans h6⟩) (fun hHeld => ?_)
      clear hK K
      try simp only [Act.put, List.setIfInBounds_toArray, List.set_cons_zero, List.set_cons_succ]
      refine wpAnyH_ready (rs := [23]) (by kernel_rfl) (by simp) ?_
      refine (AllReadyH.cons rfl (fun K hK => ?_) AllReadyH.nil)
      refine step_append_lies _ rfl _ _ 24 rfl b0 34 i0 (.agg #[.complex .f32 0 0, .complex .f32 0 0, .bool false, .float .f32 0]) 4 24 Try.underlying24 hi0 hz0 hz1 hz2 rfl (by decide) u8 i (((mixL s Ss Ts).take i).flatMap sc) (by simp [Act.eval]) (by exact ((own_keepZ HO.out (Keep.of_below (S := fun _ => False) kv2.out) (fun _ _ => id)).drew).alloc _) ⟨wv.heap.size, 0, none⟩ 1 1 (sc N) (by simp [Act.eval]) rfl (by exact World.news_of_block (heap_alloc_new _ _)) (by simp [sc, Value.oneCell']) (by decide) (by unfold maxLen; omega) (by omega) (by exact Nat.le_trans hbz2 (size_alloc_lt _ _)) _ rfl ?_
      intro g cap w9 ho9 hg9 hor9 hlt9
      refine hK.out _ _ (by obtain ⟨h0, h1, h2, h3, h4, h5, h6⟩ := hHeld; exact ⟨(hg9.cell_far ⟨wr.heap.size, 0, none⟩ (Nat.lt_of_lt_of_le zv1 (size_alloc_lt wv _)) ne1).trans h0, (hg9.cell_far ⟨wr.heap.size, 1, none⟩ (Nat.lt_of_lt_of_le zv1 (size_alloc_lt wv _)) ne1).trans h1, (hg9.cell_far ⟨wr.heap.size, 2, none⟩ (Nat.lt_of_lt_of_le zv1 (size_alloc_lt wv _)) ne1).trans h2, (hg9.cell_far ⟨wr.heap.size, 3, none⟩ (Nat.lt_of_lt_of_le zv1 (size_alloc_lt wv _)) ne1).trans h3, (hg9.cell_far ⟨wr.heap.size + 1, 0, none⟩ (Nat.lt_of_lt_of_le zv2 (size_alloc_lt wv _)) ne2).trans h4, (hg9.cell_far ⟨wr.heap.size + 1, 1, none⟩ (Nat.lt_of_lt_of_le zv2 (size_alloc_lt wv _)) ne2).trans h5, (hg9.cell_far ⟨wr.heap.size + 1, 3, none⟩ (Nat.lt_of_lt_of_le zv2 (size_alloc_lt wv _)) ne2).trans h6⟩) (fun hHeld => ?_)
      clear hK K
      try simp only [Act.put, List.setIfInBounds_toArray]
      refine wpAnyH_ready (rs := [24]) (by kernel_rfl) (by simp) ?_
      refine (AllReadyH.cons rfl (fun K hK => ?_) AllReadyH.nil)
      go_simp
      refine hK.out _ _ (hHeld) (fun hHeld => ?_)
      clear hK K
      try simp only [Act.put, List.setIfInBounds_toArray, List.set_cons_zero, List.set_cons_succ]
      refine wpAnyH_done (by kernel_rfl) ?_ _
      first | refine NoPanic.normal ?_ | skip
      have hz9 := hg9.size
      have kg : Below b0 wv w9 := (((below_alloc wv _).drew).mono hbz2).trans (own_below (w := (wv.alloc _).drew) (((own_keepZ HO.out (Keep.of_below (S := fun _ => False) kv2.out) (fun _ _ => id)).alloc _).drew) hg9 rfl (Nat.le_trans hbz2 (size_alloc_lt wv _)))
      have K9 := Lib.hid (Below.trans (Below.step HK.out kv2.out) (kg.mono hwb))
      have O9 := Lib.hid ho9
      have hz10 : b0 ≤ w9.heap.size := Nat.le_trans hbz2 (Nat.le_trans (size_alloc_lt wv _) hz9)
      clear ho9 hg9 hor9 kg hHeld
      go_wp2_with fail
      go_roundw
      case rel => exact ⟨i + 1, by omega, by go_num, Lib.hid (by rw [hne.out, List.flatMap_append, show [N].flatMap sc = sc N by simp]; exact O9.out), K9, hz10⟩
      case measure => simp [intOf]; omega
    · obtain rfl : i = Ss.length := by omega
      have hml : (mixL s Ss Ts).length = Ss.length := by
        have := HLn.out
        unfold mixL; rw [List.length_zipWith]; omega
      have ht : (mixL s Ss Ts).take Ss.length = mixL s Ss Ts := List.take_of_length_le (by rw [hml]; exact Nat.le_refl _)
      have ho := HO.out
      rw [ht, ← hml] at ho
      obtain ⟨A', c', eA, hR⟩ := own_srd ho
      have hlt := ho.lt
      rw [hml] at eA
      subst eA
      have AR := fun w' k => areSmalls_any A' c' (mixL s Ss Ts) x w' (SRd.below (w := wr) (w' := w') hR k) HX
      rw [hml] at AR
      have HR := Lib.hid hR
      have HLt := Lib.hid hlt
      clear ho hR hlt ht HO
      go_wp2_with fail
      refine (AR _ (Below.refl _ _)).mono ?_
      rintro e w9 ⟨rfl, k9⟩
      have K9 := Lib.hid k9
      clear k9 AR
      go_wp2
      go_ret2
      exact ⟨A', c', rfl, HR.out.below K9.out, fun b o e => Nat.le_trans hwb (HLt.out b (by rw [e]; rfl)).1, Below.step HK.out K9.out⟩
end Go.Proofs.Ytdodmfojbbmbdaa
