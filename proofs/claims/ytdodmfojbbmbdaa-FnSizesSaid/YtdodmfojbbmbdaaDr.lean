/- Maps drawn. -/
import Derived.Test.YtdodmfojbbmbdaaSrc
import Derived.Test.YtdodmfojbbmbdaaMx
namespace Go.Proofs.Ytdodmfojbbmbdaa
open Go.RowKit Ieee

/-- One of some numbers. -/
theorem among_any (w : World) (p : Nat) (A : Option Addr) (L c k : Nat) (hS : Src w p A L c k) (hB : BRd w A L) (hk : k ≤ 1000000) (hL : L ≤ maxLen) (g cg : Nat) (ts : List Int) (h2 : 2 ≤ ts.length) (h200 : ts.length ≤ 200)
    (hg : g < w.heap.size) (hgp : g ≠ p) (hT : ∀ i t, ts[i]? = some t → w.cell? ⟨g, i, none⟩ = some (.int .i64 t)) :
    Calls Try.prog 14 #[.pointer (some ⟨p, 0, none⟩), .slice (some ⟨g, 0, none⟩) ts.length cg] w fun e w' => ∃ t, e = .returned (.int .i64 t) ∧ t ∈ ts ∧ Keep (· = p) w w' ∧ Src w' p A L c (k + 1) := by
  have hS' := Lib.hid hS
  have HT := Lib.hid hT
  clear hT
  go_enter Try.func14, Try.ntmps14
  go_wp2_with fail
  refine (pick_any w p A L c k ts.length hS'.out hB hk hL h2 h200).mono ?_
  rintro e w1 ⟨x, rfl, hx, K, S⟩
  have HS := Lib.hid (And.intro K S)
  have c1 : w1.cell? ⟨g, x, none⟩ = some (.int .i64 ts[x]) := (K.cell (p := ⟨g, x, none⟩) hg hgp).trans (HT.out x _ (List.getElem?_eq_getElem hx))
  clear K S
  have hmem := List.getElem_mem hx
  generalize ts[x] = t at c1 hmem
  have HM := Lib.hid hmem
  clear hmem
  go_wp2
  go_ret
  exact ⟨t, rfl, HM.out, HS.out.1, HS.out.2⟩
/-- What drawn maps are. -/
structure DSm (S : SmV) (n : Nat) : Prop where
  tr : ∃ i : Nat, i < 4 ∧ S.tr = q8 ((i : Int) + 1)
  ti : ∃ j : Nat, j < 9 ∧ S.ti = q8 ((j : Int) - 4)
  sr : ∃ j : Nat, j < 9 ∧ S.sr = q8 (2 * ((j : Int) - 4))
  si : ∃ j : Nat, j < 9 ∧ S.si = q8 (2 * ((j : Int) - 4))
  sh : S.sh = fop .quo .f32 (cn .f32 1065353216) (cn .f32 (floatOfInt .f32 n))
theorem d_tr : ∀ i, i < 4 → floatBits .quo .f32 (floatOfInt .f32 ((i : Nat) + 1 : Int)) 1090519040 = some (q8 ((i : Nat) + 1 : Int)) := by decide +kernel
theorem d_ti : ∀ j, j < 9 → floatBits .quo .f32 (floatOfInt .f32 ((j : Nat) - 4 : Int)) 1090519040 = some (q8 ((j : Nat) - 4 : Int)) := by decide +kernel
theorem d_sr : ∀ j, j < 9 → floatBits .quo .f32 (floatOfInt .f32 ((j : Nat) - 4 : Int)) 1082130432 = some (q8 (2 * ((j : Nat) - 4 : Int))) := by decide +kernel
theorem d_sh : ∀ n, n < 6 → 0 < n → floatBits .quo .f32 1065353216 (floatOfInt .f32 ((n : Nat) : Int)) = some (fop .quo .f32 (cn .f32 1065353216) (cn .f32 (floatOfInt .f32 (n : Nat)))) := by decide +kernel
theorem Src.keep {S : Nat → Prop} {w w' : World} {p : Nat} {A : Option Addr} {L c k : Nat} (h : Src w p A L c k) (b : Keep S w w') (hs : ¬ S p) : Src w' p A L c k := by
  obtain ⟨hlt, c0, c1, ⟨z, hz, c2⟩, f1, f2, hne⟩ := h
  have hb := b.block p hlt hs
  exact ⟨Nat.lt_of_lt_of_le hlt b.size, (World.cell?_of_block hb).trans c0, (World.cell?_of_block hb).trans c1, ⟨z, hz, (World.cell?_of_block hb).trans c2⟩, (World.frozen?_of_block (a := ⟨p, 1, none⟩) hb).trans f1, (World.frozen?_of_block (a := ⟨p, 2, none⟩) hb).trans f2, hne⟩
/-- In the midst of drawing a map. -/
structure DrM (w v : World) (p q b0 : Nat) (A : Option Addr) (L c k : Nat) (ov : Value) (i : Nat) (xs : List Value) (S : SmV) : Prop where
  lt : q < v.heap.size
  c0 : v.cell? ⟨q, 0, none⟩ = some (.complex .f32 S.tr S.ti)
  c1 : v.cell? ⟨q, 1, none⟩ = some (.complex .f32 S.sr S.si)
  c2 : v.cell? ⟨q, 2, none⟩ = some (.bool S.fl)
  c3 : v.cell? ⟨q, 3, none⟩ = some (.float .f32 S.sh)
  f0 : v.frozen? ⟨q, 0, none⟩ = false
  f1 : v.frozen? ⟨q, 1, none⟩ = false
  src : Src v p A L c k
  own : v.ownsRow b0 34 4 ov i xs
  kb : Below w.heap.size w v
  hz : b0 ≤ v.heap.size
  pb : p < b0
  bq : b0 ≤ q
  nq : ov.ownBlock ≠ some q
  pw : p = w.heap.size
section
variable {w v v' : World} {p q b0 : Nat} {A : Option Addr} {L c k : Nat} {ov : Value} {i : Nat} {xs : List Value} {S : SmV}
theorem DrM.pick (D : DrM w v p q b0 A L c k ov i xs S) {k' : Nat} (K : Keep (· = p) v v') (hs : Src v' p A L c k') : DrM w v' p q b0 A L c k' ov i xs S := by
  have h1 := D.pb; have h2 := D.bq
  have hn : ¬ q = p := by omega
  have hb := K.block q D.lt hn
  exact ⟨Nat.lt_of_lt_of_le D.lt K.size, (World.cell?_of_block hb).trans D.c0, (World.cell?_of_block hb).trans D.c1, (World.cell?_of_block hb).trans D.c2, (World.cell?_of_block hb).trans D.c3,
    (World.frozen?_of_block (a := ⟨q, 0, none⟩) hb).trans D.f0, (World.frozen?_of_block (a := ⟨q, 1, none⟩) hb).trans D.f1, hs, own_keepZ D.own K (fun g e h => by have := (D.own.lt g e).1; (have h' : g = p := h); omega),
    Keep.below D.kb K D.kb.size (fun k h => by have := D.pw; (have h' : k = p := h); omega), Nat.le_trans D.hz K.size, h1, h2, D.nq, D.pw⟩
theorem DrM.keepq (_D : DrM w v p q b0 A L c k ov i xs S) (o : Nat) (x : Value) : Keep (· = q) v (v.setCell ⟨q, o, none⟩ x) := (Keep.refl (· = q) v).setCell (p := ⟨q, o, none⟩) (.inl rfl) _
theorem DrM.set0 (D : DrM w v p q b0 A L c k ov i xs S) (a b : Nat) : DrM w (v.setCell ⟨q, 0, none⟩ (.complex .f32 a b)) p q b0 A L c k ov i xs ⟨a, b, S.sr, S.si, S.fl, S.sh⟩ := by
  have h1 := D.pb; have h2 := D.bq; have h3 := D.kb.size; have h4 := D.pw
  refine ⟨by simpa [World.setCell] using D.lt, World.cell?_setCell_same _ _ _ D.c0, (World.cell?_setCell_other _ _ _ _ (by simp)).trans D.c1, (World.cell?_setCell_other _ _ _ _ (by simp)).trans D.c2, (World.cell?_setCell_other _ _ _ _ (by simp)).trans D.c3,
    by simpa using D.f0, by simpa using D.f1, D.src.keep (D.keepq 0 _) (by omega), ownsRow_setCell_other D.own D.nq _, D.kb.setCell (p := ⟨q, 0, none⟩) (by show w.heap.size ≤ q; omega) _, by simpa [World.setCell] using D.hz, h1, h2, D.nq, h4⟩
theorem DrM.set1 (D : DrM w v p q b0 A L c k ov i xs S) (a b : Nat) : DrM w (v.setCell ⟨q, 1, none⟩ (.complex .f32 a b)) p q b0 A L c k ov i xs ⟨S.tr, S.ti, a, b, S.fl, S.sh⟩ := by
  have h1 := D.pb; have h2 := D.bq; have h3 := D.kb.size; have h4 := D.pw
  refine ⟨by simpa [World.setCell] using D.lt, (World.cell?_setCell_other _ _ _ _ (by simp)).trans D.c0, World.cell?_setCell_same _ _ _ D.c1, (World.cell?_setCell_other _ _ _ _ (by simp)).trans D.c2, (World.cell?_setCell_other _ _ _ _ (by simp)).trans D.c3,
    by simpa using D.f0, by simpa using D.f1, D.src.keep (D.keepq 1 _) (by omega), ownsRow_setCell_other D.own D.nq _, D.kb.setCell (p := ⟨q, 1, none⟩) (by show w.heap.size ≤ q; omega) _, by simpa [World.setCell] using D.hz, h1, h2, D.nq, h4⟩
end
theorem cells_nums (w : World) (ts : List Int) (T : TypeId) : ∀ i t, ts[i]? = some t → (w.alloc (.cells (ts.map (Value.int .i64)).toArray T)).cell? ⟨w.heap.size, i, none⟩ = some (.int .i64 t) := fun i t h => by
  rw [cell_of_row _ w.heap.size i _ T (0, 0) (heap_alloc_new w _)]
  simp [h]
set_option maxRecDepth 100000 in
set_option maxHeartbeats 1000000 in
theorem b10Smalls_any (A : Option Addr) (L c : Nat) (w : World) (hB : BRd w A L) (hL : L ≤ maxLen) :
    Calls Try.prog 5 #[.slice A L c] w fun e w' => ∃ (A' : Option Addr) (c' : Nat) (Ss : List SmV), e = .returned (.slice A' Ss.length c') ∧ (Ss.length = 1 ∨ Ss.length = 2 ∨ Ss.length = 4) ∧ (∀ S ∈ Ss, DSm S Ss.length) ∧ SRd w' A' Ss ∧ Below w.heap.size w w' := by
  obtain ⟨i0, hi0, hz0, hz1, hz2⟩ := info_parts info.small
  go_enter Try.func5, Try.ntmps5
  go_wp2_with fail
  refine (from_any A L c w hB).mono ?_
  rintro e w1 ⟨rfl, k1, S1⟩
  have B1 := hB.below k1
  go_wp2_with fail
  obtain ⟨w2, hw2⟩ : ∃ v, v = w1.alloc (.cells #[] 34) := ⟨_, rfl⟩
  have z2 : w2.heap.size = w1.heap.size + 1 := by rw [hw2]; simp
  have k2 : Below w1.heap.size w1 w2 := by rw [hw2]; exact below_alloc _ _
  have O2 : w2.ownsRow w1.heap.size 34 4 (.slice (some ⟨w1.heap.size, 0, none⟩) 0 0) 0 [] := by rw [hw2]; exact World.ownsRow_made (e := 34) (size := 4) w1 #[] 0 (Nat.le_refl _) (Nat.zero_le _) rfl
  rw [← hw2]
  clear hw2
  obtain ⟨w3, hw3⟩ : ∃ v, v = w2.alloc (.cells #[.int .i64 1, .int .i64 2, .int .i64 2, .int .i64 4] 2) := ⟨_, rfl⟩
  have z3 : w3.heap.size = w2.heap.size + 1 := by rw [hw3]; simp
  have k3 : Below w2.heap.size w2 w3 := by rw [hw3]; exact below_alloc _ _
  have hT : ∀ i t, ([1, 2, 2, 4] : List Int)[i]? = some t → w3.cell? ⟨w1.heap.size + 1, i, none⟩ = some (.int .i64 t) := fun i t h => by
    rw [hw3, ← z2]
    exact cells_nums w2 [1, 2, 2, 4] _ i t h
  rw [← hw3]
  clear hw3
  have k13 : Below w1.heap.size w1 w3 := Below.step k2 k3
  have S3 := S1.below k13
  have B3 := B1.below k13
  have hp1 := S1.lt
  have O3 := (own_keepZ O2 (Keep.of_below (S := fun _ => False) k3) (fun _ _ => id))
  refine (among_any w3 w.heap.size A L c 0 S3 B3 (by decide) hL (w1.heap.size + 1) 4 [1, 2, 2, 4] (by decide) (by decide) (by omega) (by omega) hT).mono ?_
  rintro e w4 ⟨n, rfl, hn, K4, S4⟩
  have hn4 : n = 1 ∨ n = 2 ∨ n = 4 := by
    simp at hn
    omega
  have B4 : BRd w4 A L := B3.keep K4 S3.ne
  have O4 := own_keepZ O3 K4 (fun g e h => by have := (O3.lt g e).1; (have h' : g = w.heap.size := h); omega)
  have KK : Below w.heap.size w w4 := Keep.below (Below.step k1 k13) K4 (Nat.le_trans k1.size k13.size) (fun k h => by (have h' : k = w.heap.size := h); omega)
  have hz4 := K4.size
  obtain ⟨m, hm⟩ : ∃ m : Nat, n = m := ⟨n.toNat, by omega⟩
  subst hm
  have hm4 : m = 1 ∨ m = 2 ∨ m = 4 := by omega
  clear hn hn4 hT
  go_wp2_with fail
  obtain ⟨b0, hb0⟩ : ∃ b, b = w1.heap.size := ⟨_, rfl⟩
  obtain ⟨p, hp⟩ : ∃ b, b = w.heap.size := ⟨_, rfl⟩
  rw [← hb0] at O4
  have hpb : p < b0 := by rw [hp, hb0]; exact hp1
  have hbz : b0 ≤ w4.heap.size := by omega
  have hO := Lib.hid O4
  have hS : Hid (Src w4 p A L c 1) := Lib.hid (by rw [hp]; exact S4)
  have hK := Lib.hid KK
  rw [← hb0, ← hp]
  have HPW := Lib.hid hp
  clear hb0 hp O4 S4 KK B4 O3 O2 S3 B3 S1 B1 k1 k2 k3 k13 K4 z2 z3 hp1 hz4
  obtain ⟨sd1, sd2⟩ := det_some (d_sh m (by omega) (by omega))
  obtain ⟨u, hu⟩ : ∃ u, u = fop .quo .f32 (cn .f32 1065353216) (cn .f32 (floatOfInt .f32 (m : Int))) := ⟨_, rfl⟩
  rw [← hu] at sd1
  have HU := Lib.hid hu
  clear hu
  have dz : ∀ v : World, v.drewN 0 = v := fun _ => rfl
  go_loopw [4, 6] (fun ov iv wr => ∃ (i : Nat) (acc : List SmV), i ≤ m ∧ iv = .int .i64 i ∧ acc.length = i ∧ Hid (wr.ownsRow b0 34 4 ov i (acc.flatMap sc)) ∧ (∀ S ∈ acc, DSm S m) ∧ Hid (Src wr p A L c (1 + 5 * i)) ∧ Hid (Below w.heap.size w wr) ∧ b0 ≤ wr.heap.size) (fun _ iv _ => m - (intOf iv).toNat)
  case atStart => exact ⟨0, [], by omega, rfl, rfl, hO, by simp, hS, hK, hbz⟩
  case round =>
    clear hO hS hK hbz
    obtain ⟨i, acc, hi, rfl, hl, HO, HD, HS, HK, hbz⟩ := hrel
    have HL := Lib.hid hl
    clear hl
    by_cases hlt : i < m
    · have hpl := HS.out.lt
      have B5 := hB.below HK.out
      have hne := HS.out.ne
      go_wp2_with fail
      refine (one_any wr p A L c (1 + 5 * i) 3 HS.out B5 (by omega) hL (by decide) (by decide)).mono ?_
      rintro e w5 ⟨f, rfl, K5, S5⟩
      have B6 := B5.keep K5 hne
      have O5 := Lib.hid (own_keepZ HO.out K5 (fun g e h => by have := (HO.out.lt g e).1; (have h' : g = p := h); omega))
      have z5 := K5.size
      have KK5 : Hid (Below w.heap.size w w5) := Lib.hid (Keep.below HK.out K5 HK.out.size (fun k h => by have := HPW.out; (have h' : k = p := h); omega))
      go_wp2_with fail
      obtain ⟨w6, hw6⟩ : ∃ v, v = w5.alloc (.cells #[.complex .f32 0 0, .complex .f32 0 0, .bool f, .float .f32 u] 34) := ⟨_, rfl⟩
      have D6 : DrM w w6 p w5.heap.size b0 A L c (1 + 5 * i + 1) u4 i (acc.flatMap sc) ⟨0, 0, 0, 0, f, u⟩ := by
        rw [hw6]
        refine ⟨by simp, by simp, by simp, by simp, by simp, by simp, by simp, S5.below (below_alloc _ _), O5.out.alloc _, Below.step KK5.out (below_alloc _ _), Nat.le_trans (Nat.le_trans hbz z5) (size_alloc_lt _ _), hpb, Nat.le_trans hbz z5, fun e => by have := (O5.out.lt _ e).2; omega, HPW.out⟩
      have B7 : BRd w6 A L := hB.below D6.kb
      rw [← hw6]
      clear hw6 S5 O5 KK5 B5 B6 HO HS K5
      refine (pick_any w6 p A L c _ 4 D6.src B7 (by omega) hL (by decide) (by decide)).mono ?_
      rintro e w7 ⟨x, rfl, hx, K7, S7⟩
      have D7 := D6.pick K7 S7
      have B7 : BRd w7 A L := hB.below D7.kb
      clear D6 K7 S7
      obtain ⟨t1, t2⟩ := det_some (d_tr x hx)
      rw [show ((x : Nat) + 1 : Int) = 1 + (x : Int) by omega] at t1 t2
      go_wp2_with fail
      refine (pick_any w7 p A L c _ 9 D7.src B7 (by omega) hL (by decide) (by decide)).mono ?_
      rintro e w8 ⟨y, rfl, hy, K8, S8⟩
      have D8 := D7.pick K8 S8
      clear D7 K8 S8 B7
      obtain ⟨t3, t4⟩ := det_some (d_ti y hy)
      have ey : wrap64 ((y : Int) - 4) = (y : Int) - 4 := by unfold wrap64; omega
      have y0 := D8.c0
      have f0 := D8.f0
      have D9 := Lib.hid (D8.set0 (q8 (1 + (x : Int))) (q8 ((y : Int) - 4)))
      clear D8
      go_wp2_with fail
      obtain ⟨w9, hw9⟩ : ∃ v, v = w8.setCell ⟨w5.heap.size, 0, none⟩ (.complex .f32 (q8 (1 + (x : Int))) (q8 ((y : Int) - 4))) := ⟨_, rfl⟩
      rw [← hw9] at D9
      rw [← hw9]
      clear hw9 y0 f0 t1 t2 t3 t4
      have B9 : BRd w9 A L := hB.below D9.out.kb
      refine (pick_any w9 p A L c _ 9 D9.out.src B9 (by omega) hL (by decide) (by decide)).mono ?_
      rintro e w10 ⟨x2, rfl, hx2, K10, S10⟩
      have D10 := D9.out.pick K10 S10
      have B10 : BRd w10 A L := hB.below D10.kb
      clear D9 K10 S10 B9
      obtain ⟨t1, t2⟩ := det_some (d_sr x2 hx2)
      have ex2 : wrap64 ((x2 : Int) - 4) = (x2 : Int) - 4 := by unfold wrap64; omega
      go_wp2_with fail
      refine (pick_any w10 p A L c _ 9 D10.src B10 (by omega) hL (by decide) (by decide)).mono ?_
      rintro e w11 ⟨y2, rfl, hy2, K11, S11⟩
      have D11 := D10.pick K11 S11
      clear D10 K11 S11 B10
      obtain ⟨t3, t4⟩ := det_some (d_sr y2 hy2)
      have ey2 : wrap64 ((y2 : Int) - 4) = (y2 : Int) - 4 := by unfold wrap64; omega
      have y1 := D11.c1
      have f1 := D11.f1
      have D12 := Lib.hid (D11.set1 (q8 (2 * ((x2 : Int) - 4))) (q8 (2 * ((y2 : Int) - 4))))
      have e0 := D11.c0
      have e2 := D11.c2
      have e3 := D11.c3
      dsimp only at e0 e2 e3
      clear D11
      have hown := D12.out.own
      have hbz12 := D12.out.hz
      go_wp2_with (at_builtin; refine wpList_pushZ (us := sc ⟨q8 (1 + (x : Int)), q8 ((y : Int) - 4), q8 (2 * ((x2 : Int) - 4)), q8 (2 * ((y2 : Int) - 4)), f, u⟩) rfl _ _ 24 rfl b0 34 i0 (.agg #[.complex .f32 0 0, .complex .f32 0 0, .bool false, .float .f32 0]) 24 Try.underlying24 hi0 hz0 hz1 hz2 rfl (Nat.zero_lt_succ _) u4 i (acc.flatMap sc) rfl hown 1 (by simp [Act.eval]) (by simp [sc, Value.oneCell']) (by unfold maxLen; omega) (by omega) hbz12 ?_)
      intro v' w' ho' hk' _
      have hnp : ¬ u4.ownBlock = some p := fun e => by have := (hown.lt _ e).1; omega
      have S13 := Lib.hid (D12.out.src.keep hk' hnp)
      have K13 := Lib.hid (Keep.below D12.out.kb hk' D12.out.kb.size (fun k h => by have := (hown.lt _ h).1; have := HPW.out; omega))
      have hz13 := Nat.le_trans hbz12 hk'.size
      have O13 := Lib.hid ho'
      have HX := Lib.hid (And.intro hx (And.intro hy (And.intro hx2 hy2)))
      clear ho' hk' hown D12 t1 t2 t3 t4 y1 f1 e0 e2 e3 hbz12
      go_wp2_with fail
      go_roundw
      case rel =>
        refine ⟨i + 1, acc ++ [⟨q8 (1 + (x : Int)), q8 ((y : Int) - 4), q8 (2 * ((x2 : Int) - 4)), q8 (2 * ((y2 : Int) - 4)), f, u⟩], by omega, by go_num, by rw [List.length_append, HL.out]; rfl, Lib.hid (by rw [List.flatMap_append, List.flatMap_singleton]; exact O13.out), fun S hS => ?_, Lib.hid (by have h := S13.out; rw [show 1 + 5 * (i + 1) = 1 + 5 * i + 1 + 1 + 1 + 1 + 1 by omega]; exact h), K13, hz13⟩
        rcases List.mem_append.1 hS with h | h
        · exact HD S h
        · rw [List.mem_singleton.1 h]
          obtain ⟨a1, a2, a3, a4⟩ := HX.out
          exact ⟨⟨x, a1, by rw [Int.add_comm]⟩, ⟨y, a2, rfl⟩, ⟨x2, a3, rfl⟩, ⟨y2, a4, rfl⟩, HU.out⟩
      case measure => simp [intOf]; omega
    · obtain rfl : i = m := by omega
      have ho := HO.out
      have hl := HL.out
      rw [← hl] at ho
      obtain ⟨A', c', eA, hR⟩ := own_srd ho
      rw [hl] at eA
      subst eA
      have HR := Lib.hid hR
      clear ho hR hl HO HS
      go_wp2
      go_ret
      exact ⟨A', c', acc, by rw [HL.out]; rfl, by rw [HL.out]; omega, fun S hS => by rw [HL.out]; exact HD S hS, HR.out, HK.out⟩
end Go.Proofs.Ytdodmfojbbmbdaa
