/- The walk of FnWords. -/
import Derived.Test.YtfblpibioegmkaaW7
import Derived.Test.YtfblpibioegmkaaSGLaw
import Derived.Deep.RegionWith
import Derived.BigRegion
import Derived.Deep.RegionHeld3
import Derived.BigQuiet
namespace Go.Proofs.Ytfblpibioegmkaa
open Go.RowKit

theorem Box.keepW {S : Nat → Prop} {w w' : World} {p : Nat} {s : ByteArray} {A : Option Addr} {n c : Nat} (h : Box w p s A n c) (k : Keep S w w') (hs : ¬ S p) : Box w' p s A n c :=
  ⟨Nat.lt_of_lt_of_le h.lt k.size, (k.cell (p := ⟨p, 0, none⟩) h.lt hs).trans h.c0, (k.cell (p := ⟨p, 1, none⟩) h.lt hs).trans h.c1⟩
theorem ext_take (u : ByteArray) (h : Nat) (hh : h ≤ u.size) : (u.extract 0 h).data.toList = u.data.toList.take h ∧ (u.extract 0 h).size = h := by
  constructor
  · rw [ByteArray.data_extract, Array.toList_extract, List.extract_eq_take_drop]; simp
  · rw [ByteArray.size_extract]; omega
theorem ext_drop (u : ByteArray) (h : Nat) (hh : h ≤ u.size) : (u.extract h u.size).data.toList = u.data.toList.drop h ∧ (u.extract h u.size).size = u.size - h := by
  constructor
  · rw [ByteArray.data_extract, Array.toList_extract, List.extract_eq_take_drop, List.take_of_length_le (by simp)]
  · rw [ByteArray.size_extract]; omega
theorem all_take {l : List UInt8} (h : l.all okc = true) (n : Nat) : (l.take n).all okc = true := by
  rw [List.all_eq_true] at h ⊢
  exact fun x hx => h x (List.mem_of_mem_take hx)
theorem all_drop {l : List UInt8} (h : l.all okc = true) (n : Nat) : (l.drop n).all okc = true := by
  rw [List.all_eq_true] at h ⊢
  exact fun x hx => h x (List.mem_of_mem_drop hx)
/-- A word in two halves, rewritten. -/
theorem halves {s : ByteArray} {rs : List RuleV} (D : DG s rs) (u : ByteArray) (hu : u.size ≤ 16) (hg : u.data.toList.all okc = true) (h : Nat) (hh : h ≤ u.size) (A : Option Addr) (c : Nat) :
    ∃ X Y : ByteArray, X.size ≤ 4000 ∧ Y.size ≤ 4000 ∧
      (∀ w, RRd w A rs → Calls Try.prog 33 #[.agg #[.string s, .slice A rs.length c], .string (u.extract 0 h)] w fun e w' => e = .returned (.tuple #[.string X, .bool true]) ∧ Below w.heap.size w w') ∧
      (∀ w, RRd w A rs → Calls Try.prog 33 #[.agg #[.string s, .slice A rs.length c], .string (u.extract h u.size)] w fun e w' => e = .returned (.tuple #[.string Y, .bool true]) ∧ Below w.heap.size w w') ∧
      (∀ w, RRd w A rs → Calls Try.prog 33 #[.agg #[.string s, .slice A rs.length c], .string u] w fun e w' => e = .returned (.tuple #[.string (X ++ Y), .bool true]) ∧ Below w.heap.size w w') := by
  obtain ⟨a1, a2⟩ := ext_take u h hh
  obtain ⟨b1, b2⟩ := ext_drop u h hh
  have sz : ∀ t : ByteArray, t.size ≤ 16 → (onceS rs t).size ≤ 4000 := fun t ht => by
    have hm := onceM_len D.small t.data.toList
    have hsz : t.data.toList.length = t.size := Array.length_toList
    show (onceM rs t.data.toList).toArray.size ≤ 4000
    rw [List.size_toArray]
    omega
  have e : onceS rs u = onceS rs (u.extract 0 h) ++ onceS rs (u.extract h u.size) := by
    unfold onceS
    rw [a1, b1, ← once_split, List.take_append_drop]
  refine ⟨onceS rs (u.extract 0 h), onceS rs (u.extract h u.size), sz _ (by omega), sz _ (by omega), fun w hA => roW D _ (by omega) (by rw [a1]; exact all_take hg h) A c w hA, fun w hA => roW D _ (by omega) (by rw [b1]; exact all_drop hg h) A c w hA, fun w hA => ?_⟩
  rw [← e]
  exact roW D u hu hg A c w hA
theorem RRd.keep2 {w w' w0 : World} {A : Option Addr} {rs : List RuleV} {b : Nat} (h : RRd w A rs) (h0 : RRd w0 A rs) (hb : w0.heap.size ≤ b) (k : Keep (· = b) w w') : RRd w' A rs := fun i r hi => by
  obtain ⟨b1, o1, e1, hl1, c0, c1⟩ := h i r hi
  obtain ⟨b2, o2, e2, hl2, _⟩ := h0 i r hi
  rw [e1] at e2
  injection e2 with e2
  injection e2 with e2 _
  have hn : ¬ b1 = b := by omega
  exact ⟨b1, o1, e1, Nat.lt_of_lt_of_le hl1 k.size, (World.cell?_of_block (w := w) (k.block b1 hl1 hn)).trans c0, (World.cell?_of_block (w := w) (k.block b1 hl1 hn)).trans c1⟩
set_option maxRecDepth 100000 in
set_option maxHeartbeats 8000000 in
theorem wordsLaw (A B : Option Addr) (L c M d : Nat) (w : World) (hA : BRd w A L) (hB : BRd w B M) (hL : L ≤ maxLen) (hM : M ≤ maxLen) :
    Calls Try.prog 14 #[.slice A L c, .slice B M d] w fun e w' => e = .returned (.bool true) ∧ Below w.heap.size w w' := by
  obtain ⟨i0, hi, hz0, hz1, hz2⟩ := info_parts info.i64
  go_enter Try.func14, Try.ntmps14
  go_wp2_with fail
  refine (r8Long_any A B L c M d _).mono ?_
  rintro e w1 ⟨rfl, rfl⟩
  cases hb : (decide (48 < L) || decide (48 < M))
  rotate_left
  · go_wp2
    go_ret
    exact ⟨rfl, Below.refl _ _⟩
  clear hb
  go_wp2_with fail
  refine (r8Grammar_any A L c _ hA hL).mono ?_
  rintro e w1 ⟨s, A1, c1, rs, rfl, D, R1, k1⟩
  have HD := Lib.hid D
  clear D
  have hB1 := hB.below k1
  have HB0 := Lib.hid hB
  clear hB
  go_wp2_with fail
  obtain ⟨w2, hw2⟩ : ∃ v, v = w1.alloc (.cells #[.string s, .slice A1 rs.length c1] 25) := ⟨_, rfl⟩
  have ka : Below w1.heap.size w1 w2 := by rw [hw2]; exact below_alloc _ _
  obtain ⟨p, hp⟩ : ∃ p, p = w1.heap.size := ⟨_, rfl⟩
  have G2 : Box w2 p s A1 rs.length c1 := by rw [hw2]; exact box_new _ _ _ _ _ _ _ hp
  rw [← hw2, ← hp]
  have R2 := R1.below ka
  have K := Below.step k1 ka
  have hB2' := hB1.below ka
  clear hw2 hp ka k1 R1 hB1 hA
  refine (r8At_any B M d 0 4 w2 hB2' hM (by decide) (by decide) (by decide)).mono ?_
  rintro e w3 ⟨t, rfl, ht, rfl⟩
  have ht3 : t ≤ 3 := by omega
  obtain ⟨g_, g0, g1⟩ := G2
  go_wp2_with fail
  refine (rpD HD.out (show t ≤ 4 by omega) t rfl A1 c1 _ R2).mono ?_
  rintro e w4 ⟨rfl, k⟩
  have HP := Lib.hid (HD.out.rp (show t ≤ 4 by omega)).2.2
  obtain ⟨g_, g0, g1⟩ := (Box.mk g_ g0 g1).below k
  replace R2 := R2.below k
  replace hB2' := hB2'.below k
  replace K := Below.step K k
  clear k
  go_wp2_with fail
  refine (roD HD.out ht3 A1 c1 _ R2).mono ?_
  rintro e w5 ⟨rfl, k⟩
  obtain ⟨g_, g0, g1⟩ := (Box.mk g_ g0 g1).below k
  replace R2 := R2.below k
  replace hB2' := hB2'.below k
  replace K := Below.step K k
  clear k
  go_wp2_with fail
  refine (rpD HD.out (show t + 1 ≤ 4 by omega) _ (by push_cast; rfl) A1 c1 _ R2).mono ?_
  rintro e w6 ⟨rfl, k⟩
  obtain ⟨g_, g0, g1⟩ := (Box.mk g_ g0 g1).below k
  replace R2 := R2.below k
  replace hB2' := hB2'.below k
  replace K := Below.step K k
  clear k
  go_wp2_with fail
  refine (laD HD.out ht3 A1 c1 _ R2).mono ?_
  rintro e w7 ⟨gl, rfl, _, V, k⟩
  have hgl7 := V.lt
  obtain ⟨g_, g0, g1⟩ := (Box.mk g_ g0 g1).below k
  replace R2 := R2.below k
  replace hB2' := hB2'.below k
  replace K := Below.step K k
  clear k
  go_wp2_with fail
  refine (loD HD.out ht3 A1 c1 _ R2).mono ?_
  rintro e w8 ⟨rfl, k⟩
  have hgl : gl < w8.heap.size := Nat.lt_of_lt_of_le hgl7 k.size
  obtain ⟨g_, g0, g1⟩ := (Box.mk g_ g0 g1).below k
  replace R2 := R2.below k
  replace hB2' := hB2'.below k
  replace K := Below.step K k
  replace V := V.below k
  clear k
  have hsz := HP.out.2
  have HS := Lib.hid hsz
  have hiw : (itT rs s t).size ≤ maxLen := by unfold maxLen; omega
  obtain ⟨a, ha⟩ : ∃ a, a = itT rs s t := ⟨_, rfl⟩
  obtain ⟨a2, ha2⟩ : ∃ a, a = itT rs s (t + 1) := ⟨_, rfl⟩
  have IW := isWord_any a w8 (by rw [ha]; exact hiw)
  rw [ha, HP.out.1, ← ha] at IW
  rw [← ha] at hsz V
  rw [← ha, ← ha2]
  clear hiw ha ha2 HS
  have HV := Lib.hid V
  clear V
  go_wp2_with fail
  refine IW.mono ?_
  rintro e w9 ⟨rfl, rfl⟩
  clear IW
  go_wp2_with (first | (at_make; refine wpList_make_full _ rfl _ _ 45 rfl w8.heap.size 2 i0 (.int .i64 0) 1 Try.underlying45 hi hz0 hz1 _ _ _ _ 27 rfl rfl rfl rfl (by rw [hz2]; omega) (by unfold maxLen; omega) (Nat.le_refl _) ?_))
  intro w9 hown hgrow
  have k : Below w8.heap.size w8 w9 := (Below.refl _ _).grown hgrow (Nat.le_refl _) (fun k h => by cases h)
  have hv1 := vec_own hown
  have HV9 := Lib.hid (HV.out.below k)
  have HR8 := Lib.hid R2
  have hg8 := g_
  have K8 := K.size
  obtain ⟨g_, g0, g1⟩ := (Box.mk g_ g0 g1).below k
  replace R2 := R2.below k
  replace hB2' := hB2'.below k
  replace K := Below.step K k
  clear hown hgrow hi hz0 hz1 hz2 HV k
  obtain ⟨b, hb⟩ : ∃ b, b = w8.heap.size := ⟨_, rfl⟩
  have hb1 : w8.heap.size ≤ b := by omega
  have hb2 : gl < b := by omega
  have hb3 : p < b := by omega
  rw [← hb] at hv1
  go_wp2_with fail
  rw [← hb]
  clear hb
  have HG := Lib.hid (And.intro (Box.mk g_ g0 g1) (And.intro R2 (And.intro hB2' K)))
  clear g_ g0 g1 R2 hB2' K hgl hgl7 hg8
  go_loopw [18] (fun iv wr => ∃ k : Nat, k ≤ a.size ∧ iv = .int .i64 k ∧ Vec wr b (cnt (a.data.toList.take k)) ∧ Hid (Keep (· = b) w9 wr)) (fun iv _ => a.size - (intOf iv).toNat)
  case atStart => exact ⟨0, Nat.zero_le _, rfl, hv1.congr (fun j _ => rfl), Lib.hid (Keep.refl _ _)⟩
  case round =>
    clear hv1
    obtain ⟨k, hk, rfl, hV, hkeep⟩ := hrel
    by_cases hlt : k < a.size
    · have hki : (k : Int) < a.size := by omega
      have hs := Lib.hid (fun j (_ : j < 27) => (cnt_snoc (a.data.toList.take k) a[k] j).symm.trans (by rw [take_snoc a k hlt]) : ∀ j, j < 27 → upd (cnt (a.data.toList.take k)) (idxL a[k]) (cnt (a.data.toList.take k) (idxL a[k]) + 1) j = cnt (a.data.toList.take (k + 1)) j)
      have hcl := cnt_le (a.data.toList.take k) (idxL a[k])
      have hcl2 : cnt (a.data.toList.take k) (idxL a[k]) ≤ 4000 := by
        have : (a.data.toList.take k).length ≤ k := List.length_take_le _ _
        omega
      have hwr : IntKind.i64.wrap (cnt (a.data.toList.take k) (idxL a[k]) + 1) = cnt (a.data.toList.take k) (idxL a[k]) + 1 := IntWalk.i64_in _ (by omega)
      have c0 := hV.c (idxL a[k]) (idxL_lt _)
      have z0 := hV.z (idxL a[k]) (idxL_lt _)
      have hP := Lib.hid (hV.put (idxL a[k]) (cnt (a.data.toList.take k) (idxL a[k]) + 1))
      generalize cnt (a.data.toList.take k) (idxL a[k]) = v at hwr c0 hP hs
      clear hcl hcl2
      cases hl : ltr (a[k].toNat : Int)
      · have hi : idxL a[k] = 26 := by
          unfold idxL
          rw [if_neg]
          intro h
          unfold ltr at hl
          simp at hl
          omega
        rw [hi] at c0 z0 hP hs
        have hor : (a[k].toNat : Int) < 65 ∨ ((65 : Int) ≤ a[k].toNat ∧ (90 : Int) < a[k].toNat) := by
          unfold ltr at hl
          simp at hl
          omega
        rcases hor with hor | ⟨hor, hor2⟩
        all_goals
          go_wp2
          go_roundw
          case rel => exact ⟨k + 1, by omega, by go_num, hP.out.congr hs.out, Lib.hid (hkeep.out.setCell (.inl rfl) _)⟩
          case measure => simp [intOf]; omega
      · have hl2 := hl
        unfold ltr at hl2
        rw [Bool.and_eq_true, decide_eq_true_eq, decide_eq_true_eq] at hl2
        have hi : idxL a[k] = a[k].toNat - 65 := by
          unfold idxL
          rw [if_pos (by omega)]
        have u1 : IntKind.u8.wrap ((a[k].toNat : Int) - 65) = (a[k].toNat : Int) - 65 := IntWalk.u8_in _ (by omega)
        rw [hi] at c0 z0 hP hs
        have q3 : (65 : Int) ≤ a[k].toNat := by omega
        have q4 : (a[k].toNat : Int) ≤ 90 := by omega
        have q5 : (a[k].toNat : Int) - 65 < 27 := by omega
        have q6 : (a[k].toNat : Int) < 27 + 65 := by omega
        go_wp2
        go_roundw
        case rel => exact ⟨k + 1, by omega, by go_num, hP.out.congr hs.out, Lib.hid (hkeep.out.setCell (.inl rfl) _)⟩
        case measure => simp [intOf]; omega
    · obtain rfl : k = a.size := by omega
      rw [List.take_of_length_le (by show a.data.size ≤ a.size; exact Nat.le_refl _)] at hV
      obtain ⟨G9, R9, B9, K9⟩ := HG.out
      have G10 := G9.keepW hkeep.out (show ¬ p = b by omega)
      have R10 := R9.keep2 HR8.out hb1 hkeep.out
      have B10 := B9.keep hkeep.out (fun b' o hl e h => by (have h' : b' = b := h); have := HB0.out.lt hl e; omega)
      have K10 := hkeep.out.below K9 K9.size (fun b' h => by (have h' : b' = b := h); omega)
      have V10 := HV9.out.keep hkeep.out (show ¬ gl = b by omega)
      have HVV := Lib.hid (And.intro V10 hV)
      have HG10 := Lib.hid (And.intro G10 (And.intro R10 (And.intro B10 K10)))
      clear G9 R9 B9 K9 G10 R10 B10 K10 V10 hV hkeep HG HV9 HR8
      obtain ⟨wo, hwo⟩ : ∃ wo, wo = wr := ⟨_, rfl⟩
      subst hwo
      go_wp2_with fail
      go_loopw [19] (fun iv wx => ∃ k m : Nat, k ≤ 27 ∧ iv = .int .i64 k ∧ wx = wo.drewN m) (fun iv _ => 27 - (intOf iv).toNat)
      case atStart => exact ⟨0, 0, by decide, rfl, rfl⟩
      case round =>
        obtain ⟨k, m, hk, rfl, hwx⟩ := hrel
        by_cases hlt : k < 27
        · have hki : (k : Int) < 27 := by omega
          have c1 : wr.cell? ⟨gl, k, none⟩ = some (.int .i64 (cnt a.data.toList k)) := by rw [hwx]; exact HVV.out.1.c k hlt
          have c2 : wr.cell? ⟨b, k, none⟩ = some (.int .i64 (cnt a.data.toList k)) := by rw [hwx]; exact HVV.out.2.c k hlt
          have HW := Lib.hid hwx
          clear hwx
          generalize cnt a.data.toList k = v at c1 c2
          go_wp2_with fail
          go_quiet (fail)
          go_wp2_with fail
          go_roundw
          case rel => exact ⟨k + 1, _, by omega, by go_num, by rw [HW.out]; exact World.drewN_drewN _ _ _⟩
          case measure => simp [intOf]; omega
        · obtain rfl : k = 27 := by omega
          have kd : Below wo.heap.size wo wr := by rw [hwx]; exact below_drewN (Below.refl _ _) _
          clear hwx
          obtain ⟨G, R, B1, K⟩ := HG10.out
          obtain ⟨g_, g0, g1⟩ := G.below kd
          replace R := R.below kd
          replace B1 := B1.below kd
          replace K := Below.step K kd
          have cF := (HVV.out.2.below kd).c 5 (by decide)
          have HVb := Lib.hid (HVV.out.2.below kd)
          clear kd HVV HG10 G
          go_wp2_with fail
          refine (r8Word_any B M d _ B1 hM).mono ?_
          rintro e w11 ⟨u, rfl, hu, hug, k⟩
          obtain ⟨g_, g0, g1⟩ := (Box.mk g_ g0 g1).below k
          have cF := (k.cell (p := ⟨b, 5, none⟩) (HVb.out.lt)).trans cF
          replace R := R.below k
          replace K := Below.step K k
          have HR := Lib.hid (And.intro R K)
          have hlb := HVb.out.lt
          have hlb2 : b < w11.heap.size := Nat.lt_of_lt_of_le hlb k.size
          obtain ⟨h, hh⟩ : ∃ h : Nat, h = u.size / 2 := ⟨_, rfl⟩
          have hq : (u.size : Int) / 2 = (h : Int) := by omega
          have hhu : h ≤ u.size := by omega
          have hhi : (h : Int) ≤ u.size := by omega
          obtain ⟨X, Y, hX, hY, q1, q2, q3⟩ := halves HD.out u hu hug h hhu A1 c1
          have HC := Lib.hid (And.intro q1 (And.intro q2 q3))
          clear hlb HVb R K k hug B1 hh q1 q2 q3
          go_wp2_with fail
          go_region_with (go_at_call 33; refine (HC.out.1 _ (by exact HR.out.1)).mono ?_; rintro e w12 ⟨rfl, k12⟩; have k := (Below.refl w11.heap.size w11).drew.trans k12; clear k12)
          obtain ⟨g_, g0, g1⟩ := (Box.mk g_ g0 g1).below k
          replace cF := (k.cell (p := ⟨b, 5, none⟩) hlb2).trans cF
          have hlb3 := Nat.lt_of_lt_of_le hlb2 k.size
          have HR := Lib.hid (And.intro (HR.out.1.below k) (Below.step HR.out.2 k))
          clear k
          go_wp2_with fail
          go_region_with (go_at_call 33; refine (HC.out.2.1 _ (by exact HR.out.1)).mono ?_; rintro e w13 ⟨rfl, k13⟩; have k := (Below.refl w12.heap.size w12).drew.trans k13; clear k13)
          obtain ⟨g_, g0, g1⟩ := (Box.mk g_ g0 g1).below k
          replace cF := (k.cell (p := ⟨b, 5, none⟩) hlb3).trans cF
          have hlb4 := Nat.lt_of_lt_of_le hlb3 k.size
          have HR := Lib.hid (And.intro (HR.out.1.below k) (Below.step HR.out.2 k))
          clear k
          go_wp2_with fail
          refine (HC.out.2.2 _ HR.out.1).mono ?_
          rintro e w14 ⟨rfl, k⟩
          obtain ⟨g_, g0, g1⟩ := (Box.mk g_ g0 g1).below k
          replace cF := (k.cell (p := ⟨b, 5, none⟩) hlb4).trans cF
          have HR := Lib.hid (And.intro (HR.out.1.below k) (Below.step HR.out.2 k))
          have hXY : (X.size : Int) + Y.size ≤ 8000 := by omega
          clear k HC
          go_wp2_with fail
          obtain ⟨l, pl1, pl2, pl3, pl4, pl5, pl6⟩ := HD.out.put
          have HPL := Lib.hid (And.intro pl1 (And.intro pl2 (And.intro pl4 (And.intro pl5 pl6))))
          have HLN := Lib.hid pl3
          clear pl1 pl2 pl3 pl4 pl5 pl6
          obtain ⟨v14, hv⟩ : ∃ v, v = w14.alloc (.cells #[.string ⟨#[81]⟩, .string ⟨#[70, 45, 81]⟩] 55) := ⟨_, rfl⟩
          have k : Below w14.heap.size w14 v14 := by rw [hv]; exact below_alloc _ _
          obtain ⟨pr, hpr⟩ : ∃ pr, pr = w14.heap.size := ⟨_, rfl⟩
          have RB : RBox v14 pr qR := by rw [hv]; exact rbox_new _ qR _ _ hpr
          rw [← hv, ← hpr]
          clear hv hpr
          obtain ⟨g_, g0, g1⟩ := (Box.mk g_ g0 g1).below k
          have HR := Lib.hid (And.intro (HR.out.1.below k) (Below.step HR.out.2 k))
          clear k
          refine (putC HD.out.gram HPL.out.1 A1 c1 _ HR.out.1).mono ?_
          rintro e w15 ⟨A2, c2, rfl, RP, k⟩
          obtain ⟨g_, g0, g1⟩ := (Box.mk g_ g0 g1).below k
          obtain ⟨r_, r0, r1⟩ := RB.below k
          have K := Below.step HR.out.2 k
          clear k HR
          go_wp2_with fail
          obtain ⟨v15, hv⟩ : ∃ v, v = w15.alloc (.cells #[.string s, .slice A2 l.length c2] 25) := ⟨_, rfl⟩
          have k : Below w15.heap.size w15 v15 := by rw [hv]; exact below_alloc _ _
          obtain ⟨p2, hp2⟩ : ∃ pr, pr = w15.heap.size := ⟨_, rfl⟩
          have PB : Box v15 p2 s A2 l.length c2 := by rw [hv]; exact box_new _ _ _ _ _ _ _ hp2
          rw [← hv, ← hp2]
          clear hv hp2
          obtain ⟨g_, g0, g1⟩ := (Box.mk g_ g0 g1).below k
          replace RP := RP.below k
          replace K := Below.step K k
          clear k
          refine (putC HPL.out.2.1 HPL.out.2.2.1 A2 c2 _ RP).mono ?_
          rintro e w16 ⟨A3, c3, rfl, RQ, k⟩
          obtain ⟨g_, g0, g1⟩ := (Box.mk g_ g0 g1).below k
          obtain ⟨p_, p0, p1⟩ := PB.below k
          replace RP := RP.below k
          replace K := Below.step K k
          clear k
          go_wp2_with fail
          obtain ⟨v16, hv⟩ : ∃ v, v = w16.alloc (.cells #[.string s, .slice A3 l.length c3] 25) := ⟨_, rfl⟩
          have k : Below w16.heap.size w16 v16 := by rw [hv]; exact below_alloc _ _
          obtain ⟨p3, hp3⟩ : ∃ pr, pr = w16.heap.size := ⟨_, rfl⟩
          have QB : Box v16 p3 s A3 l.length c3 := by rw [hv]; exact box_new _ _ _ _ _ _ _ hp3
          rw [← hv, ← hp3]
          clear hv hp3
          obtain ⟨g_, g0, g1⟩ := (Box.mk g_ g0 g1).below k
          obtain ⟨p_, p0, p1⟩ := (Box.mk p_ p0 p1).below k
          replace RP := RP.below k
          replace RQ := RQ.below k
          replace K := Below.step K k
          clear k
          refine (qC HPL.out.2.1 HPL.out.2.2.2.1 HPL.out.2.2.2.2 A2 c2 _ RP).mono ?_
          rintro e w17 ⟨rfl, k⟩
          obtain ⟨g_, g0, g1⟩ := (Box.mk g_ g0 g1).below k
          obtain ⟨p_, p0, p1⟩ := (Box.mk p_ p0 p1).below k
          obtain ⟨q_, q0, q1⟩ := QB.below k
          replace RP := RP.below k
          replace RQ := RQ.below k
          replace K := Below.step K k
          clear k
          go_wp2_with fail
          refine (implKoch _).mono ?_
          rintro e w18 ⟨gk, ck, rfl, _, _, rk, _, k⟩
          obtain ⟨g_, g0, g1⟩ := (Box.mk g_ g0 g1).below k
          obtain ⟨p_, p0, p1⟩ := (Box.mk p_ p0 p1).below k
          obtain ⟨q_, q0, q1⟩ := (Box.mk q_ q0 q1).below k
          replace RP := RP.below k
          replace RQ := RQ.below k
          replace K := Below.step K k
          clear k
          go_wp2_with fail
          refine (longC koch_gram koch_long.1 koch_long.2 _ _ _ rk).mono ?_
          rintro e w19 ⟨rfl, k⟩
          obtain ⟨g_, g0, g1⟩ := (Box.mk g_ g0 g1).below k
          obtain ⟨p_, p0, p1⟩ := (Box.mk p_ p0 p1).below k
          obtain ⟨q_, q0, q1⟩ := (Box.mk q_ q0 q1).below k
          replace RP := RP.below k
          replace RQ := RQ.below k
          replace K := Below.step K k
          clear k
          go_wp2_with fail
          refine (implDragon _).mono ?_
          rintro e w20 ⟨gd, cd, rfl, _, _, rd, _, k⟩
          obtain ⟨g_, g0, g1⟩ := (Box.mk g_ g0 g1).below k
          obtain ⟨p_, p0, p1⟩ := (Box.mk p_ p0 p1).below k
          obtain ⟨q_, q0, q1⟩ := (Box.mk q_ q0 q1).below k
          replace RP := RP.below k
          replace RQ := RQ.below k
          replace K := Below.step K k
          clear k
          go_wp2_with fail
          refine (longC dragon_gram dragon_long.1 dragon_long.2 _ _ _ rd).mono ?_
          rintro e w21 ⟨rfl, k⟩
          obtain ⟨g_, g0, g1⟩ := (Box.mk g_ g0 g1).below k
          obtain ⟨p_, p0, p1⟩ := (Box.mk p_ p0 p1).below k
          obtain ⟨q_, q0, q1⟩ := (Box.mk q_ q0 q1).below k
          replace RP := RP.below k
          replace RQ := RQ.below k
          replace K := Below.step K k
          clear k
          go_wp2_with fail
          refine (implBush _).mono ?_
          rintro e w22 ⟨gb, cb, rfl, _, _, rb, _, k⟩
          obtain ⟨g_, g0, g1⟩ := (Box.mk g_ g0 g1).below k
          obtain ⟨p_, p0, p1⟩ := (Box.mk p_ p0 p1).below k
          obtain ⟨q_, q0, q1⟩ := (Box.mk q_ q0 q1).below k
          replace RP := RP.below k
          replace RQ := RQ.below k
          replace K := Below.step K k
          clear k
          go_wp2_with fail
          refine (longC bush_gram bush_long.1 bush_long.2 _ _ _ rb).mono ?_
          rintro e w23 ⟨rfl, k⟩
          obtain ⟨g_, g0, g1⟩ := (Box.mk g_ g0 g1).below k
          obtain ⟨p_, p0, p1⟩ := (Box.mk p_ p0 p1).below k
          obtain ⟨q_, q0, q1⟩ := (Box.mk q_ q0 q1).below k
          replace RP := RP.below k
          replace RQ := RQ.below k
          replace K := Below.step K k
          clear k
          go_wp2_with fail
          refine (sameC HPL.out.2.1 A3 A2 c3 c2 _ RQ RP).mono ?_
          rintro e w24 ⟨rfl, k⟩
          obtain ⟨g_, g0, g1⟩ := (Box.mk g_ g0 g1).below k
          obtain ⟨p_, p0, p1⟩ := (Box.mk p_ p0 p1).below k
          obtain ⟨q_, q0, q1⟩ := (Box.mk q_ q0 q1).below k
          replace RP := RP.below k
          replace RQ := RQ.below k
          replace K := Below.step K k
          clear k
          have hln : (l.length : Int) = rs.length + 1 := by have := HLN.out; omega
          have hrl : rs.length ≤ 4 := HD.out.len
          go_wp2_with fail
          go_ret
          first | exact ⟨rfl, K⟩ | exact ⟨ret_bool (by simp), K⟩
end Go.Proofs.Ytfblpibioegmkaa
