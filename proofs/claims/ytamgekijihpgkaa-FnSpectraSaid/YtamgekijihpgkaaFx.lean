/- The walk of FnSpectra. -/
import Derived.Test.YtamgekijihpgkaaMi
import Derived.Test.YtamgekijihpgkaaSi
import Derived.Test.YtamgekijihpgkaaSj
namespace Go.Proofs.Ytamgekijihpgkaa
open Go.RowKit Ieee

/-- The words of a drawn line. -/
def lineW (a b : Nat) (seed : Int) : List Nat := (List.range (2 * b + 9)).map (fun i => oF (q2 a) seed ((2 * b + 9 : Nat) : Int) (b + 4) i)
theorem oF_num {a b i : Nat} {seed : Int} (ha : a < 9) (hb : b < 6) (s0 : 0 ≤ seed) (s1 : seed ≤ 2147483647) (hi : i < 2 * b + 9) : isF .f32 (oF (q2 a) seed ((2 * b + 9 : Nat) : Int) (b + 4) i) ∧ oF (q2 a) seed ((2 * b + 9 : Nat) : Int) (b + 4) i < 4294967296 := by
  refine ⟨(oF_near ha rfl hb s0 s1 hi (b + 4) (by omega)).1, ?_⟩
  have e : 2 * FloatKind.f32.format.signWeight = 4294967296 := by decide +kernel
  rw [← e, show b + 4 = (b + 3) + 1 by omega, oF_succ]
  exact fop_lt _ _ _
theorem sp_line {a b n sw : Nat} {seed : Int} (hsw : sw = q2 a) (hn : n = 2 * b + 9) (ha : a < 9) (hb : b < 6) (s0 : 0 ≤ seed) (s1 : seed ≤ 2147483647) {ys : List Nat} (h : ys.map (cn .f32) = (List.range n).map (fun i => oF sw seed (n : Int) ((n - 1) / 2) i)) : ys = lineW a b seed := by
  subst hsw hn
  have hK : (2 * b + 9 - 1) / 2 = b + 4 := by omega
  rw [hK] at h
  have hlen : ys.length = 2 * b + 9 := by
    have := congrArg List.length h
    simpa using this
  unfold lineW
  rw [← h]
  have e : ys.map (cn .f32) = ys.map id := by
    apply List.map_congr_left
    intro x hx
    obtain ⟨i, hi, rfl⟩ := List.getElem_of_mem hx
    have g := congrArg (fun l => l[i]?) h
    simp only [List.getElem?_map, List.getElem?_range (show i < 2 * b + 9 by omega), List.getElem?_eq_getElem hi, Option.map_some] at g
    have g := Option.some.inj g
    have f := (oF_num ha hb s0 s1 (show i < 2 * b + 9 by omega)).1
    have r := cn_inj g f.num
    rw [r, f.cn]
    rfl
  rw [e, List.map_id]
structure LineF (a b n : Nat) (seed : Int) (xs : List Nat) : Prop where
  len : xs.length = n
  ln : LnF n xs
  pw : lnL n xs ((n - 1) / 2) = pwN a b seed
  num : ∀ i (h : i < xs.length), isN .f32 xs[i] = false ∧ xs[i] < 4294967296
theorem line_facts {a b n : Nat} {seed : Int} (hn : n = 2 * b + 9) (ha : a < 9) (hb : b < 6) (s0 : 0 ≤ seed) (s1 : seed ≤ 2147483647) : LineF a b n seed (lineW a b seed) := by
  subst hn
  have hK : (2 * b + 9 - 1) / 2 = b + 4 := by omega
  have hm : (lineW a b seed).map (cn .f32) = (List.range (2 * b + 9)).map (fun i => oF (q2 a) seed ((2 * b + 9 : Nat) : Int) (b + 4) i) := by
    unfold lineW
    rw [List.map_map]
    apply List.map_congr_left
    intro i hi
    exact (oF_num ha hb s0 s1 (List.mem_range.1 hi)).1.cn
  obtain ⟨l1, l2⟩ := line_ok ha hb s0 s1 hm
  refine ⟨l1.len, l1, by rw [hK]; exact l2, fun i h => ?_⟩
  have e : (lineW a b seed)[i] = oF (q2 a) seed ((2 * b + 9 : Nat) : Int) (b + 4) i := by simp [lineW]
  have hi : i < 2 * b + 9 := by have := l1.len; omega
  obtain ⟨f, g⟩ := oF_num ha hb s0 s1 hi
  rw [e]
  exact ⟨f.num, g⟩
set_option maxRecDepth 100000 in
set_option maxHeartbeats 4000000 in
theorem spectraLaw (A B : Option Addr) (L c M d : Nat) (w : World) (hA : BRd w A L) (hB : BRd w B M) (hL : L ≤ maxLen) (hM : M ≤ maxLen) :
    Calls Try.prog 3 #[.slice A L c, .slice B M d] w fun e w' => e = .returned (.bool true) ∧ Below w.heap.size w w' := by
  go_enter Try.func3, Try.ntmps3
  go_wp2_with fail
  refine (b10Long_any A B L c M d _).mono ?_
  rintro e w1 ⟨rfl, rfl⟩
  cases hlong : (decide (1048576 < L) || decide (1048576 < M))
  case true =>
    go_wp2
    go_ret
    exact ⟨rfl, Below.refl _ _⟩
  go_wp2_with fail
  refine (seed_any A L c _ hA hL).mono ?_
  rintro e w2 ⟨seed, rfl, s0, s1, k2⟩
  have hB2 := hB.below k2
  have K2 := Lib.hid k2
  clear k2
  go_wp2_with fail
  refine (b10At_any B M d 0 9 w2 hB2 hM (by decide) (by decide) (by decide)).mono ?_
  rintro e w2' ⟨a, rfl, ha, rfl⟩
  have T := t_ok ha
  obtain ⟨q1, q2'⟩ := fb_some T.q
  have HT := Lib.hid T
  clear T
  have dz : ∀ v : World, v.drewN 0 = v := fun _ => rfl
  obtain ⟨sw, hsw⟩ : ∃ z, z = q2 a := ⟨_, rfl⟩
  rw [← hsw] at q1
  have HSW := Lib.hid hsw
  clear hsw
  go_wp2_with fail
  refine (b10At_any B M d 1 6 w2 hB2 hM (by decide) (by decide) (by decide)).mono ?_
  rintro e w2' ⟨b, rfl, hb, rfl⟩
  obtain ⟨n, hn⟩ : ∃ n : Nat, n = 2 * b + 9 := ⟨_, rfl⟩
  have n9 : 9 ≤ n := by omega
  have n19 : n ≤ 19 := by omega
  have hnI : Hid ((9 + 2 * (b : Int)) = (n : Int)) := Lib.hid (by omega)
  have HN := Lib.hid hn
  clear hn
  go_wp2_with fail
  rw [hnI.out]
  have g1 := HT.out.g1
  have g2 := HT.out.g2
  rw [← HSW.out] at g1 g2
  have LF := line_facts HN.out ha hb s0 s1
  have LL := LF.len
  obtain ⟨t, TO⟩ := told_ok ha hb s0 s1
  have LT := Lib.hid (last_test ha TO)
  have SPL := fun ys h => @sp_line a b n sw seed HSW.out HN.out ha hb s0 s1 ys h
  obtain ⟨Lw, hLw⟩ : ∃ l, l = lineW a b seed := ⟨_, rfl⟩
  rw [← hLw] at LF LL
  rw [← hLw] at SPL
  have HLF := Lib.hid LF
  have HTO := Lib.hid TO
  have HSPL := Lib.hid SPL
  have HL := Lib.hid LL
  have HK : Hid ((n - 1) / 2 = b + 4) := Lib.hid (by have := HN.out; omega)
  have C1 := fun w => implSp_yes n sw seed w (by omega) (by omega) g1 g2 s0 s1
  have C2 := fun w => specSp_yes n sw seed w (by omega) (by omega) g1 g2 s0 s1
  obtain ⟨ol, hol⟩ : ∃ l, l = (List.range n).map (fun i => oF sw seed (n : Int) ((n - 1) / 2) i) := ⟨_, rfl⟩
  rw [← hol] at C1 C2
  rw [← hol] at HSPL
  clear hLw LF TO SPL hol g1 g2 hB2 hB hA LL
  obtain ⟨es, hes⟩ : ∃ s, s = sd seed ((n - 1) / 2) := ⟨_, rfl⟩
  rw [← hes] at C1 C2
  clear hes
  refine (C1 w2).mono ?_
  rintro e w3 ⟨A1, c1, ys, rfl, own1, hv1, k3⟩
  obtain rfl := HSPL.out ys hv1
  have R1 := Lib.hid own1.1
  have K3 := Lib.hid (Below.step K2.out k3)
  clear own1 hv1 k3 K2
  go_wp2_with fail
  refine (C2 w3).mono ?_
  rintro e w4 ⟨A2, c2, zs, rfl, own2, hv2, k4⟩
  have hzs := HSPL.out zs hv2
  subst hzs
  have R2 := Lib.hid own2.1
  have R1 : Hid (FRd w4 A1 zs) := Lib.hid (Rd.below R1.out k4)
  have K4 := Lib.hid (Below.step K3.out k4)
  clear own2 hv2 k4 K3 C1 C2 HSPL
  go_wp2_with fail
  have PW := powers_any A1 c1 n zs w4 R1.out HLF.out.ln
  have hpl : (pwN a b seed).length = (n - 1) / 2 := by rw [pwN_len, HK.out]
  rw [HLF.out.pw] at PW
  have ok := HTO.out.ok
  have eqt := HTO.out.eq
  have ft := HTO.out.fin
  have SP := fun A c w h => implSP_any A c (pwN a b seed) w h (by unfold maxLen; rw [pwN_len]; omega)
  rw [ok, eqt, hpl] at SP
  obtain ⟨Pw, hPw⟩ : ∃ l, l = pwN a b seed := ⟨_, rfl⟩
  rw [← hPw] at PW SP
  obtain ⟨K, hK⟩ : ∃ k, k = (n - 1) / 2 := ⟨_, rfl⟩
  rw [← hK] at PW SP
  have hKI : ((K : Int) != ((n : Int) - 1) / 2) = false := by simp; omega
  have hftn := ft.num
  clear hPw hpl ok eqt hK
  refine PW.mono ?_
  rintro e w5 ⟨A3, c3, rfl, R3, k5⟩
  have R1 : Hid (FRd w5 A1 zs) := Lib.hid (Rd.below R1.out k5)
  have R2 : Hid (FRd w5 A2 zs) := Lib.hid (Rd.below R2.out k5)
  have K5 := Lib.hid (Below.step K4.out k5)
  have R3 := Lib.hid R3
  clear PW k5 K4
  go_wp2_with fail
  refine (SP A3 c3 w5 R3.out).mono ?_
  rintro e w6 ⟨tb, rfl, htb, k6⟩
  obtain rfl := cn_inj htb hftn
  have R1 : Hid (FRd w6 A1 zs) := Lib.hid (Rd.below R1.out k6)
  have R2 : Hid (FRd w6 A2 zs) := Lib.hid (Rd.below R2.out k6)
  have K6 := Lib.hid (Below.step K5.out k6)
  clear SP k6 K5 R3
  go_wp2_with fail
  refine (list_any A1 A2 c1 c2 zs w6 R1.out R2.out (by have := HL.out; omega) HLF.out.num).mono ?_
  rintro e w7 ⟨rfl, k7⟩
  have K7 := Lib.hid (Below.step K6.out k7)
  have TT := HT.out
  obtain ⟨x1, x2⟩ := wdr_zero ft
  obtain ⟨x3, x4⟩ := wdr_zero TT.f
  obtain ⟨p1, p2⟩ := fb_some TT.p
  obtain ⟨m1, m2⟩ := fb_some TT.m
  have hmn := TT.mf.cn
  have hgt := LT.out
  have cct := (wide_val ft).1.cn
  have ccs := (wide_val TT.f).1.cn
  rw [← HSW.out] at x3 x4 p1 p2 hgt ccs
  have hc05 : c05 = 4587366580439587226 := rfl
  rw [hc05] at m1 m2
  obtain ⟨tp, htp⟩ : ∃ z, z = tP a := ⟨_, rfl⟩
  obtain ⟨tm, htm⟩ : ∃ z, z = tM a := ⟨_, rfl⟩
  rw [← htp] at p1 m1 m2
  rw [← htm] at m1 hmn hgt
  clear R1 R2 k7 K6 TT htp htm hc05
  go_wp2_with fail
  refine (b10Gap_any (c64 tb) (c64 sw) _).mono ?_
  rintro e w8 ⟨r, rfl, hr, m8, hw8⟩
  have K8 : Hid (Below w.heap.size w w8) := Lib.hid (by rw [hw8]; exact below_drewN K7.out _)
  have hc : (ford .f64 (cn .f64 r) (cn .f64 tm) == some .lt) = true := by
    rw [hr, cct, ccs, hmn]
    exact hgt
  clear hw8 hr hgt hmn cct ccs K7
  go_wp2_with fail
  go_ret
  exact ⟨rfl, K8.out⟩
end Go.Proofs.Ytamgekijihpgkaa
