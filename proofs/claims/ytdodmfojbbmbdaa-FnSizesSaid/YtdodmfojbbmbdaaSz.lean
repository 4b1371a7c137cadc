/- SizeOfSmalls. -/
import Derived.Test.YtdodmfojbbmbdaaSm
namespace Go.Proofs.Ytdodmfojbbmbdaa
open Go.RowKit Ieee

theorem zeroTurn_any (S : SmV) (h : (ford .f32 (cn .f32 S.tr) (cn .f32 0) == some .eq) = false) (w : World) : Calls Try.prog 19 #[smv S] w fun e w' => e = .returned (.bool false) ∧ Below w.heap.size w w' := by
  unfold smv
  go_enter Try.func19, Try.ntmps19
  go_wp2
  go_ret
  exact ⟨rfl, below_alloc _ _⟩
/-- The logarithms of the maps. -/
def lgs (Ss : List SmV) : List Nat := Ss.map fun S => logF (lgV S.tr S.ti)
/-- What the walk wants to know of a map. -/
structure SmT (S : SmV) : Prop where
  nz : (ford .f32 (cn .f32 S.tr) (cn .f32 0) == some .eq) = false
  lg : LgD S.tr S.ti
  gt : ford .f32 (cn .f32 (lgV S.tr S.ti)) (cn .f32 0) = some .gt
  fin : finB (cn .f32 (lgV S.tr S.ti)) = true
  num : isN .f32 (lgV S.tr S.ti) = false
set_option maxHeartbeats 1000000 in
theorem contains_any (A : Option Addr) (c : Nat) (Ss : List SmV) (w : World) (hA : SRd w A Ss) (hf : Ss.length ≤ 5) (HT : ∀ S ∈ Ss, SmT S) :
    Calls Try.prog 18 #[.slice A Ss.length c, .func (.func 19) #[] #[]] w fun e w' => e = .returned (.bool false) ∧ Below w.heap.size w w' := by
  go_enter Try.func18, Try.ntmps18
  go_wp2_with fail
  go_in
  go_wp2_with fail
  go_loopw [8] (fun iv wr => ∃ k : Nat, k ≤ Ss.length ∧ iv = .int .i64 k ∧ Hid (Below w.heap.size w wr)) (fun iv _ => Ss.length - (intOf iv).toNat)
  case atStart => exact ⟨0, by omega, rfl, Lib.hid (Below.refl _ _)⟩
  case round =>
    obtain ⟨k, hk, rfl, HK⟩ := hrel
    have hAr := hA.below HK.out
    by_cases hlt : k < Ss.length
    · obtain ⟨b, o, rfl, hb, c0, c1, c2, c3⟩ := hAr k Ss[k] (by simp [hlt])
      have VS := fun w => zeroTurn_any Ss[k] (HT _ (List.getElem_mem hlt)).nz w
      obtain ⟨S, hS⟩ : ∃ S, S = Ss[k] := ⟨_, rfl⟩
      rw [← hS] at c0 c1 c2 c3 VS
      clear hS
      unfold smv at VS
      have hkI : (k : Int) < Ss.length := by omega
      go_wp2_with fail
      refine (VS _).mono ?_
      rintro e w2 ⟨rfl, k2⟩
      have K2 := Lib.hid (Below.step HK.out k2)
      clear k2 VS
      go_wp2_with fail
      go_roundw
      case rel => exact ⟨k + 1, by omega, by go_num, K2⟩
      case measure => simp [intOf]; omega
    · obtain rfl : k = Ss.length := by omega
      go_wp2
      go_ret
      exact ⟨rfl, HK.out⟩
theorem lgs_at {Ss : List SmV} {Ls : List Nat} (h : Ls = lgs Ss) {i : Nat} (hi : i < Ls.length) (hj : i < Ss.length) : Ls[i] = logF (lgV Ss[i].tr Ss[i].ti) := by
  subst h
  simp [lgs]
theorem raw_eq {k : FloatKind} {b L : Nat} (h : cn k b = L) (hn : isN k L = false) : b = L := by
  have : isN k b = false := by rw [← isN_cn, h]; exact hn
  rw [← h, cn_of_not this]
/-- The middle, at every step of the bisection. -/
theorem bM_all {Ls : List Nat} (H : LsF Ls) (k : Nat) (hk : k < 40) : BM (bN Ls k).1 (bN Ls k).2 ∧ isF .f32 (bM (bN Ls k).1 (bN Ls k).2) ∧ 0 ≤ rv .f32 (bM (bN Ls k).1 (bN Ls k).2) ∧ rv .f32 (bM (bN Ls k).1 (bN Ls k).2) ≤ 9 := by
  cases k with
  | zero =>
    have h16 : isF .f32 1098907648 ∧ rv .f32 1098907648 = 16 := constF (by decide +kernel)
    have hm : bM 0 1098907648 = 1090519040 := by decide +kernel
    have B := bM_ok zero_val.1 h16.1 (by rw [zero_val.2]; exact Rat.le_refl) (by rw [h16.2]; decide) (by rw [zero_val.2, h16.2]; decide +kernel)
    refine ⟨B, ?_⟩
    show isF .f32 (bM 0 1098907648) ∧ 0 ≤ rv .f32 (bM 0 1098907648) ∧ rv .f32 (bM 0 1098907648) ≤ 9
    rw [hm, eight_val.2]
    exact ⟨eight_val.1, by decide, by decide⟩
  | succ k =>
    have I := bN_ok H k (by omega)
    obtain ⟨a, b, _⟩ := bS_ok H (by omega) I
    exact ⟨a, b⟩
/-- What a step of the bisection wants to know. -/
structure BStep (Ls : List Nat) (k : Nat) (s d : Nat) : Prop where
  a : (∀ w, fres .add .f32 (bN Ls k).1 (bN Ls k).2 w = s) ∧ fdr .add .f32 (bN Ls k).1 (bN Ls k).2 = 0
  m : (∀ w, fres .mul .f32 1056964608 s w = d) ∧ fdr .mul .f32 1056964608 s = 0
  e : bM (bN Ls k).1 (bN Ls k).2 = d
  fin : isF .f32 d
  pos : 0 ≤ rv .f32 d
  hi : rv .f32 d ≤ 9
theorem bStep {Ls : List Nat} (H : LsF Ls) (k : Nat) (hk : k < 40) : ∃ s d, BStep Ls k s d := by
  obtain ⟨B, f, p, h⟩ := bM_all H k hk
  have hh : isF .f32 1056964608 ∧ rv .f32 1056964608 = 1 / 2 := constF (by decide +kernel)
  have e2 : bM (bN Ls k).1 (bN Ls k).2 = fop .mul .f32 1056964608 (fop .add .f32 (bN Ls k).1 (bN Ls k).2) := by unfold bM; rw [hh.1.cn]
  exact ⟨fop .add .f32 (bN Ls k).1 (bN Ls k).2, bM (bN Ls k).1 (bN Ls k).2, ⟨B.a.res, B.a.dr⟩, by rw [e2]; exact ⟨B.m.res, B.m.dr⟩, rfl, f, p, h⟩
theorem sE_snoc (d : Nat) (Ls : List Nat) (L s : Nat) : sE d (Ls ++ [L]) s = fop .add .f32 (sE d Ls s) (eL d L) := by unfold sE; rw [List.foldl_append]; rfl
/-- What a term of the sum wants to know. -/
structure TStep (d L s x E s' : Nat) : Prop where
  m : (∀ w, fres .mul .f32 d L w = x) ∧ fdr .mul .f32 d L = 0
  ex : ExF x
  e : exN x = E
  n : isN .f32 E = false
  a : (∀ w, fres .add .f32 s E w = s') ∧ fdr .add .f32 s E = 0
theorem tStep_of {Ls : List Nat} (H : LsF Ls) {d : Nat} (hd : isF .f32 d) (h0 : 0 ≤ rv .f32 d) (h9 : rv .f32 d ≤ 9) {k : Nat} (hk : k < Ls.length) : ∃ x E, TStep d Ls[k] (sE d (Ls.take k) 0) x E (sE d (Ls.take (k + 1)) 0) := by
  have hL := H.lg Ls[k] (List.getElem_mem hk)
  have X := xL_ok hd h0 h9 hL
  obtain ⟨f, n⟩ := eL_ok hd h0 h9 hL
  have hT : ∀ L ∈ Ls.take k, LgF L := fun L h => H.lg L (List.mem_of_mem_take h)
  have hl : (Ls.take k).length ≤ 5 := by rw [List.length_take]; have := H.few; omega
  obtain ⟨a, b⟩ := sE_all hd h0 h9 hT hl
  obtain ⟨g1, g2⟩ := gSum_bd h0 h9 hT
  obtain ⟨g3, g4⟩ := gE_bd X.glo X.ghi
  have hl' : ((Ls.take k).length : Rat) ≤ 5 := by
    have := Rat.natCast_le_natCast.2 hl
    exact this
  obtain ⟨y1, y2⟩ := ab_both b
  obtain ⟨z1, z2⟩ := ab_both n
  have hb : ab (rv .f32 (sE d (Ls.take k) 0) + rv .f32 (eL d Ls[k])) ≤ 10 := by apply ab_le <;> grind
  have A := op_add a f (by have := big32; grind)
  refine ⟨xL d Ls[k], eL d Ls[k], ⟨X.op.res, X.op.dr⟩, exF_of X.op.near.fin X.lo X.hi, rfl, f.num, ?_⟩
  rw [List.take_succ_eq_append_getElem hk, sE_snoc]
  exact ⟨A.res, A.dr⟩
set_option maxHeartbeats 4000000 in
theorem sizeOf_any (A : Option Addr) (c : Nat) (Ss : List SmV) (u : Nat) (w : World) (hA : SRd w A Ss) (H : SmL Ss u) (HT : ∀ S ∈ Ss, SmT S) (Ls : List Nat) (hLs : Ls = lgs Ss) (HL : LsF Ls) :
    Calls Try.prog 6 #[.slice A Ss.length c] w fun e w' => e = .returned (.tuple #[.float .f32 (bN Ls 40).1, .bool true]) ∧ Below w.heap.size w w' := by
  have hf := H.few
  have hp := H.pos
  go_enter Try.func6, Try.ntmps6
  go_wp2_with fail
  refine (areSmalls_any A c Ss u w hA H).mono ?_
  rintro e w1 ⟨rfl, k1⟩
  have hA1 := hA.below k1
  have K1 := Lib.hid k1
  clear k1
  go_wp2_with fail
  refine (contains_any A c Ss _ hA1 hf HT).mono ?_
  rintro e w2 ⟨rfl, k2⟩
  have hA2 := hA1.below k2
  have K2 := Lib.hid (Below.step K1.out k2)
  clear k2 K1 hA1
  go_wp2_with fail
  have hLL : Ls.length = Ss.length := by rw [hLs]; unfold lgs; rw [List.length_map]
  have dz : ∀ v : World, v.drewN 0 = v := fun _ => rfl
  have HLL := Lib.hid (And.intro hLs hLL)
  clear hLs hLL
  go_loopw [4, 5, 17] (fun lo hi iv wr => ∃ k : Nat, k ≤ 40 ∧ lo = .float .f32 (bN Ls k).1 ∧ hi = .float .f32 (bN Ls k).2 ∧ iv = .int .i64 k ∧ Hid (Below w.heap.size w wr)) (fun _ _ iv _ => 40 - (intOf iv).toNat)
  case atStart => exact ⟨0, by omega, rfl, rfl, rfl, K2⟩
  case round =>
    clear K2
    obtain ⟨k, hk, rfl, rfl, rfl, HK⟩ := hrel
    have hAr := hA.below HK.out
    by_cases hlt : k < 40
    · obtain ⟨s, d, B⟩ := bStep HL k hlt
      obtain ⟨a1, a2⟩ := B.a
      obtain ⟨m1, m2⟩ := B.m
      have HB := Lib.hid B
      clear B
      obtain ⟨lo, hlo⟩ : ∃ x, x = (bN Ls k).1 := ⟨_, rfl⟩
      obtain ⟨hi, hhi⟩ : ∃ x, x = (bN Ls k).2 := ⟨_, rfl⟩
      rw [← hlo, ← hhi] at a1 a2
      rw [← hlo, ← hhi]
      have HLH := Lib.hid (And.intro hlo hhi)
      clear hlo hhi
      go_wp2_with fail
      rw [show decide ((k : Int) < 40) = true by simp; omega]
      obtain ⟨wo, hwo⟩ : ∃ wo, wo = wr := ⟨_, rfl⟩
      subst hwo
      go_loopw [7, 25] (fun sv iv wr => ∃ i : Nat, i ≤ Ss.length ∧ sv = .float .f32 (sE d (Ls.take i) 0) ∧ iv = .int .i64 i ∧ Hid (Below w.heap.size w wr)) (fun _ iv _ => Ss.length - (intOf iv).toNat)
      case atStart => exact ⟨0, by omega, rfl, rfl, HK⟩
      case round =>
        clear HK hAr
        obtain ⟨i, hi', rfl, rfl, HK⟩ := hrel
        have hAr := hA.below HK.out
        by_cases hil : i < Ss.length
        · obtain ⟨b, o, rfl, hb, c0, c1, c2, c3⟩ := hAr i Ss[i] (by simp [hil])
          have hT := HT Ss[i] (List.getElem_mem hil)
          have hiL : i < Ls.length := by rw [HLL.out.2]; exact hil
          obtain ⟨x, E, T⟩ := tStep_of HL HB.out.fin HB.out.pos HB.out.hi hiL
          have eL' := lgs_at HLL.out.1 hiL hil
          obtain ⟨S, hS⟩ : ∃ S, S = Ss[i] := ⟨_, rfl⟩
          rw [← hS] at c0 c1 c2 c3 hT eL'
          clear hS
          have hLf := (HL.lg _ (List.getElem_mem hiL)).fin.num
          obtain ⟨L, hLe⟩ : ∃ L, L = Ls[i] := ⟨_, rfl⟩
          rw [← hLe] at T eL' hLf
          clear hLe
          have LO := fun w => longOf_any S.tr S.ti hT.lg w
          have LN := fun w => logNumber_any (lgV S.tr S.ti) w hT.gt hT.fin
          rw [cn_of_not hT.num, ← eL'] at LN
          obtain ⟨l, hl⟩ : ∃ l, l = lgV S.tr S.ti := ⟨_, rfl⟩
          rw [← hl] at LO LN
          clear hl eL'
          obtain ⟨m3, m4⟩ := T.m
          obtain ⟨a3, a4⟩ := T.a
          have EX := fun w => expNumber_any x T.ex w
          rw [T.e] at EX
          have hEn := T.n
          have HT' := Lib.hid T
          clear T
          obtain ⟨s1, hs1⟩ : ∃ z, z = sE d (Ls.take i) 0 := ⟨_, rfl⟩
          obtain ⟨s2, hs2⟩ : ∃ z, z = sE d (Ls.take (i + 1)) 0 := ⟨_, rfl⟩
          rw [← hs1, ← hs2] at a3
          rw [← hs1] at a4
          rw [← hs1]
          have HS2 := Lib.hid hs2
          clear hs1 hs2 HT'
          have hiI : (i : Int) < Ss.length := by omega
          go_wp2_with fail
          refine (LO _).mono ?_
          rintro e w5 ⟨rfl, rfl⟩
          go_wp2_with fail
          refine (LN _).mono ?_
          rintro e w5 ⟨b1, n1, rfl, hb1, rfl⟩
          obtain rfl := raw_eq hb1 hLf
          go_wp2_with fail
          refine (EX _).mono ?_
          rintro e w5 ⟨b2, n2, rfl, hb2, rfl⟩
          obtain rfl := raw_eq hb2 hEn
          go_wp2_with fail
          go_roundw
          case rel => exact ⟨i + 1, by omega, by rw [HS2.out], by go_num, Lib.hid (below_drewN (Below.step HK.out (below_alloc _ _)) _)⟩
          case measure => simp [intOf]; omega
        · obtain rfl : i = Ss.length := by omega
          have hst : Ls.take Ss.length = Ls := List.take_of_length_le (by rw [HLL.out.2]; exact Nat.le_refl _)
          rw [hst]
          have hsf := (sE_all HB.out.fin HB.out.pos HB.out.hi HL.lg HL.few).1
          have hb1 : bN Ls (k + 1) = if ford .f32 (sE d Ls 0) (cn .f32 1065353216) == some .gt then (d, (bN Ls k).2) else ((bN Ls k).1, d) := by
            show bS Ls (bN Ls k) = _
            unfold bS
            rw [HB.out.e]
          obtain ⟨l1, l2⟩ := HLH.out
          rw [← l1, ← l2] at hb1
          have hcs := hsf.cn
          obtain ⟨S1, hS1⟩ : ∃ z, z = sE d Ls 0 := ⟨_, rfl⟩
          rw [← hS1] at hb1 hcs
          rw [← hS1]
          rw [← hcs] at hb1
          have HB1 := Lib.hid hb1
          clear hS1 hb1 l1 l2 hsf hcs
          cases hgt : (ford .f32 (cn .f32 S1) (cn .f32 1065353216) == some .gt)
          · go_wp2_with fail
            go_roundw
            case rel => exact ⟨k + 1, by omega, by rw [HB1.out, hgt]; rfl, by rw [HB1.out, hgt]; rfl, by go_num, HK⟩
            case measure => simp [intOf]; omega
          · go_wp2_with fail
            go_roundw
            case rel => exact ⟨k + 1, by omega, by rw [HB1.out, hgt]; rfl, by rw [HB1.out, hgt]; rfl, by go_num, HK⟩
            case measure => simp [intOf]; omega
    · obtain rfl : k = 40 := by omega
      go_wp2
      go_ret2
      exact ⟨rfl, HK.out⟩
end Go.Proofs.Ytdodmfojbbmbdaa
