/- PutRule: the reference's side. -/
import Derived.Test.YtfblpibioegmkaaPF
import Derived.BigQuiet
namespace Go.Proofs.Ytfblpibioegmkaa
open Go.RowKit

/-- In the reference's loop. -/
structure PutI (w wr : World) (p : Nat) (s : ByteArray) (A0 : Option Addr) (c0 : Nat) (rs : List RuleV) (r : RuleV) (acc : List RuleV) (A : Option Addr) (c : Nat) : Prop where
  gbox : Box wr w.heap.size s A0 rs.length c0
  rbox : RBox wr (w.heap.size + 1) r
  res : Can wr (w.heap.size + 1 + 1)
  box : Box wr p s A acc.length c
  can : Can wr p
  own : wr.ownsRow (w.heap.size + 1 + 1 + 1) 55 2 (.slice A acc.length c) acc.length (acc.flatMap rv)
  ne : (Value.slice A acc.length c).ownBlock ≠ some p
  ge : w.heap.size + 1 + 1 < p
  below : Below w.heap.size w wr
theorem RBox.grown {w w' : World} {row : Option Nat} {p : Nat} {r : RuleV} (h : RBox w p r) (k : w.grownBy w' row) (hn : row ≠ some p) : RBox w' p r :=
  ⟨Nat.lt_of_lt_of_le h.lt k.size, (World.cell?_of_block (k.block p h.lt (fun e => hn e.symm))).trans h.c0, (World.cell?_of_block (k.block p h.lt (fun e => hn e.symm))).trans h.c1⟩
section
variable {w wr wa w6 : World} {p : Nat} {s : ByteArray} {A0 : Option Addr} {c0 : Nat} {rs : List RuleV} {r : RuleV} {acc : List RuleV} {A : Option Addr} {c : Nat}
theorem PutI.below' (I : PutI w wr p s A0 c0 rs r acc A c) (k : Below wr.heap.size wr wa) : PutI w wa p s A0 c0 rs r acc A c :=
  ⟨I.gbox.below k, I.rbox.below k, I.res.below k, I.box.below k, I.can.below k, own_step I.own k, I.ne, I.ge, Below.step I.below k⟩
theorem PutI.can6 (I : PutI w wa p s A0 c0 rs r acc A c) (hg : wa.grownBy w6 (Value.slice A acc.length c).ownBlock) : (∃ v, w6.cell? ⟨p, 1, none⟩ = some v) ∧ w6.frozen? ⟨p, 1, none⟩ = false := by
  have C := I.can.grown hg I.ne
  exact ⟨C.2.2.1, C.2.2.2.2⟩
theorem PutI.push (I : PutI w wa p s A0 c0 rs r acc A c) (x : RuleV) {g cap H : Nat} (hg : wa.grownBy w6 (Value.slice A acc.length c).ownBlock)
    (ho : w6.ownsRow (w.heap.size + 1 + 1 + 1) 55 2 (.slice (some ⟨g, 0, none⟩) (acc.length + 1) cap) (acc.length + 1) (acc.flatMap rv ++ rv x)) (hor : (Value.slice A acc.length c).ownBlock = some g ∨ g = H) (hH : H = wa.heap.size) :
    PutI w (w6.setCell ⟨p, 1, none⟩ (.slice (some ⟨g, 0, none⟩) (acc.length + 1) cap)) p s A0 c0 rs r (acc ++ [x]) (some ⟨g, 0, none⟩) cap := by
  have hlt := I.own.lt
  have n0 : (Value.slice A acc.length c).ownBlock ≠ some w.heap.size := fun e => by have := (hlt _ e).1; omega
  have n1 : (Value.slice A acc.length c).ownBlock ≠ some (w.heap.size + 1) := fun e => by have := (hlt _ e).1; omega
  have n2 : (Value.slice A acc.length c).ownBlock ≠ some (w.heap.size + 1 + 1) := fun e => by have := (hlt _ e).1; omega
  have G := I.gbox.grown hg n0
  have R := I.rbox.grown hg n1
  have Z := I.res.grown hg n2
  have B := I.box.grown hg I.ne
  have C := I.can.grown hg I.ne
  have hp := I.ge
  have hpg : g ≠ p := fun e => by
    rcases hor with h | h
    · exact I.ne (by rw [h, e])
    · have := I.box.lt; omega
  have k6 : Below (w.heap.size + 1 + 1 + 1) wa w6 := own_below I.own hg rfl (by have := I.box.lt; omega)
  have hfm : (acc ++ [x]).flatMap rv = acc.flatMap rv ++ rv x := by simp
  have hln : (acc ++ [x]).length = acc.length + 1 := by simp
  refine ⟨⟨by simpa [World.setCell] using G.lt, (far_cell (by omega)).trans G.c0, (far_cell (by omega)).trans G.c1⟩, ⟨by simpa [World.setCell] using R.lt, (far_cell (by omega)).trans R.c0, (far_cell (by omega)).trans R.c1⟩, Z.set _ _,
    ⟨by simpa [World.setCell] using B.lt, (World.cell?_setCell_other _ _ _ _ (by simp)).trans B.c0, ?_⟩, C.set _ _, ?_, fun e => hpg (by simpa [Value.ownBlock] using e), hp, (I.below.trans (k6.mono (by omega))).setCell (by simp only []; omega) _⟩
  · rw [hln]; exact World.cell?_setCell_same _ _ _ B.c1
  · rw [hln, hfm]
    exact ownsRow_setCell_other ho (fun e => hpg (by simpa [Value.ownBlock] using e)) _
end
theorem less_one {a b : ByteArray} (ha : a.size = 1) (hb : b.size = 1) : Op.bytesLess a.toList b.toList = decide (hdI a < hdI b) ∧ (a.toList == b.toList) = decide (hdI a = hdI b) := by
  obtain ⟨x, e1, h1⟩ := one_list ha
  obtain ⟨y, e2, h2⟩ := one_list hb
  rw [e1, e2, h1, h2]
  constructor
  · have k1 : x < y ↔ x.toNat < y.toNat := UInt8.lt_iff_toNat_lt
    simp only [Op.bytesLess]
    rw [Bool.eq_iff_iff]
    simp
    rw [k1]
  · have k2 : x = y ↔ x.toNat = y.toNat := UInt8.toNat_inj.symm
    rw [Bool.eq_iff_iff]
    simp
    rw [k2]
    omega
set_option maxRecDepth 100000 in
set_option maxHeartbeats 4000000 in
theorem specPut_any (s : ByteArray) (A : Option Addr) (c : Nat) (rs : List RuleV) (r : RuleV) (w : World) (hA : RRd w A rs) (hn : rs.length ≤ maxLen) (hs : s.size ≤ maxLen) (hz : ∀ r ∈ rs, r.1.size ≤ maxLen ∧ r.2.size ≤ maxLen) (z1 : r.1.size ≤ maxLen) (z2 : r.2.size ≤ maxLen) :
    Calls Try.prog 44 #[.agg #[.string s, .slice A rs.length c], .agg #[.string r.1, .string r.2]] w (PutR w s (putV s rs r)) := by
  obtain ⟨w1, hw1⟩ : ∃ w1, w1 = w.alloc (.cells #[.string s, .slice A rs.length c] 25) := ⟨_, rfl⟩
  obtain ⟨w2, hw2⟩ : ∃ w2, w2 = w1.alloc (.cells #[.string r.1, .string r.2] 55) := ⟨_, rfl⟩
  obtain ⟨w3, hw3⟩ : ∃ w3, w3 = w2.alloc (.cells #[.string ⟨#[]⟩, .slice none 0 0] 25) := ⟨_, rfl⟩
  have k1 : Below w.heap.size w w1 := by rw [hw1]; exact below_alloc _ _
  have k2 : Below w1.heap.size w1 w2 := by rw [hw2]; exact below_alloc _ _
  have k3 : Below w2.heap.size w2 w3 := by rw [hw3]; exact below_alloc _ _
  have K3 : Below w.heap.size w w3 := Below.step (Below.step k1 k2) k3
  have e1 : w1.heap.size = w.heap.size + 1 := by rw [hw1]; simp
  have e2 : w2.heap.size = w.heap.size + 1 + 1 := by rw [hw2, ← e1]; simp
  have B3 : Box w3 w.heap.size s A rs.length c := ((by rw [hw1]; exact box_new _ _ _ _ _ _ _ rfl : Box w1 w.heap.size s A rs.length c).below k2).below k3
  have R3 : RBox w3 (w.heap.size + 1) r := (by rw [hw2]; exact rbox_new _ _ _ _ e1.symm : RBox w2 (w.heap.size + 1) r).below k3
  have Z3 : Can w3 (w.heap.size + 1 + 1) := by rw [hw3]; exact can_new _ _ _ _ _ e2.symm
  have HW : Hid (w3 = ((w.alloc (.cells #[.string s, .slice A rs.length c] 25)).alloc (.cells #[.string r.1, .string r.2] 55)).alloc (.cells #[.string ⟨#[]⟩, .slice none 0 0] 25)) := Lib.hid (by rw [hw3, hw2, hw1])
  clear hw1 hw2 hw3 k1 k2 k3 e1 e2
  go_enter Try.func44, Try.ntmps44
  go_wp2_with fail
  rw [← HW.out]
  clear HW
  refine (l04Is_any s A c w.heap.size rs _ (hA.below K3) hn hs hz B3.c0 B3.c1).mono ?_
  rintro e w4 ⟨rfl, n4, hw4⟩
  have k4 : Below w3.heap.size w3 w4 := by rw [hw4]; exact below_drewN (Below.refl _ _) _
  clear hw4
  obtain ⟨b4_, b40, b41⟩ := B3.below k4
  obtain ⟨r4_, r40, r41⟩ := R3.below k4
  have Z4 := Z3.below k4
  have K4 := Below.step K3 k4
  clear k4 K3 B3 R3 Z3
  cases hG : gramB s rs
  · obtain ⟨q0, q1⟩ := Z4.read (.string ⟨#[]⟩) (.slice none 0 0)
    obtain ⟨z_, ⟨v0, y0⟩, ⟨v1, y1⟩, zf0, zf1⟩ := Z4
    have HQ := Lib.hid (And.intro q0 q1)
    clear q0 q1
    have HV : Hid (putV s rs r = none) := Lib.hid (by unfold putV; rw [hG]; rfl)
    clear hG
    go_wp2
    obtain ⟨q0, q1⟩ := HQ.out
    refine bodyPost_ret (v := .tuple #[.agg #[.string ⟨#[]⟩, .slice none 0 0], .bool false]) (by simp [results, Try.results44, go_sem, q0, q1]) rfl ?_
    rw [HV.out]
    exact ⟨(K4.setCell (by simp only []; omega) _).setCell (by simp only []; omega) _, rfl⟩
  · go_wp2_with fail
    refine (l04Rule_any r (w.heap.size + 1) 0 _ z2 r40 r41).mono ?_
    rintro e w5 ⟨rfl, rfl⟩
    cases hR : ruleB r
    · obtain ⟨q0, q1⟩ := Z4.read (.string ⟨#[]⟩) (.slice none 0 0)
      obtain ⟨z_, ⟨v0, y0⟩, ⟨v1, y1⟩, zf0, zf1⟩ := Z4
      have HQ := Lib.hid (And.intro q0 q1)
      clear q0 q1
      have HV : Hid (putV s rs r = none) := Lib.hid (by unfold putV; rw [hG, hR]; rfl)
      clear hG hR
      go_wp2
      obtain ⟨q0, q1⟩ := HQ.out
      refine bodyPost_ret (v := .tuple #[.agg #[.string ⟨#[]⟩, .slice none 0 0], .bool false]) (by simp [results, Try.results44, go_sem, q0, q1]) rfl ?_
      rw [HV.out]
      exact ⟨(K4.setCell (by simp only []; omega) _).setCell (by simp only []; omega) _, rfl⟩
    · obtain ⟨hn8, hone, hsrt⟩ := gram_parts hG
      have HG := Lib.hid (And.intro hG hR)
      have HP := Lib.hid (And.intro hone hsrt)
      have hr1 := rule_size hR
      have HR1 := Lib.hid hr1
      clear hG hR hone hsrt hr1
      go_wp2_with fail
      obtain ⟨p, hp⟩ : ∃ p, p = w4.heap.size + 1 := ⟨_, rfl⟩
      obtain ⟨w5, hw5⟩ : ∃ w5, w5 = (w4.alloc (.cells #[] 55)).alloc (.cells #[.string s, .slice (some ⟨w4.heap.size, 0, none⟩) 0 0] 25) := ⟨_, rfl⟩
      have I5 : PutI w w5 p s A c rs r [] (some ⟨w4.heap.size, 0, none⟩) 0 := by
        have kx : Below w4.heap.size w4 w5 := by rw [hw5]; exact Below.step (below_alloc _ _) (below_alloc _ _)
        have hp' : p = (w4.alloc (.cells #[] 55)).heap.size := by rw [hp]; simp
        exact ⟨(Box.mk b4_ b40 b41).below kx, (RBox.mk r4_ r40 r41).below kx, Z4.below kx, by rw [hw5]; exact box_new _ _ _ _ _ _ _ hp', by rw [hw5]; exact can_new _ _ _ _ _ hp',
          by rw [hw5]; exact (World.ownsRow_made (e := 55) (size := 2) w4 #[] 0 (by have := Z4.1; omega) (Nat.zero_le _) rfl).alloc _, fun e => by simp [Value.ownBlock] at e; omega, by have := Z4.1; omega, Below.step K4 kx⟩
      rw [← hw5, ← hp]
      clear hw5 hp b4_ b40 b41 r4_ r40 r41 Z4 K4
      go_loopw [7, 8] (fun pv iv wr => ∃ (k : Nat) (acc : List RuleV) (f : Bool) (A' : Option Addr) (c' : Nat), k ≤ rs.length ∧ iv = .int .i64 k ∧ pv = .bool f ∧ Hid (putF (fun x : RuleV => hdI x.1) r (rs.take k) = (acc, f)) ∧ acc.length ≤ k + 1 ∧ (f = false → acc.length ≤ k) ∧ Hid (PutI w wr p s A c rs r acc A' c')) (fun _ iv _ => rs.length - (intOf iv).toNat)
      case atStart => exact ⟨0, [], false, _, _, Nat.zero_le _, rfl, rfl, Lib.hid rfl, by simp, by simp, Lib.hid I5⟩
      case round =>
        clear I5
        obtain ⟨i0, hi0, hz0, hz1, hz2⟩ := info_parts info.rule
        obtain ⟨k, acc, f, A', c', hk, rfl, rfl, HF, hal, haf, HI⟩ := hrel
        obtain ⟨⟨g_, g0, g1⟩, ⟨r_, r0, r1⟩, _, ⟨b_, b0, b1⟩, _, _, _, hge, hbel⟩ := HI.out
        by_cases hlt : k < rs.length
        · have hAr := hA.below hbel
          clear hbel
          obtain ⟨b, o, rfl, hb, d0, d1⟩ := hAr k rs[k] (by simp [hlt])
          obtain ⟨l1, l2⟩ := less_one (HP.out.1 rs[k] (List.getElem_mem hlt)) HR1.out
          have hsn : putF (fun x : RuleV => hdI x.1) r (rs.take (k + 1)) = putS (fun x : RuleV => hdI x.1) r (acc, f) rs[k] := by rw [List.take_succ_eq_append_getElem hlt, putF_snoc, HF.out]
          have HSN := Lib.hid hsn
          have HX := Lib.hid (List.getElem?_eq_getElem hlt)
          clear hsn hAr
          generalize hx : rs[k] = x at d0 d1 l1 l2 HSN HX
          clear hx
          cases f
          · have hal2 := haf rfl
            clear haf hal
            by_cases hls : hdI x.1 < hdI r.1
            · have HSN2 : Hid (putF (fun x : RuleV => hdI x.1) r (rs.take (k + 1)) = (acc ++ [x], false)) := Lib.hid (by rw [HSN.out]; unfold putS; rw [if_neg (by simp; omega)]; simp; omega)
              rw [decide_eq_true hls] at l1
              rw [decide_eq_false (by omega)] at l2
              clear HSN hls
              go_wp2_with fail
              go_quiet (fail)
              go_wp2_with fail
              go_quiet (fail)
              go_wp2_with fail
              refine (fun (h : ∀ w6, PutI w w6 p s (some ⟨b, o, none⟩) c rs r (acc) A' c' → Code.wp Try.prog _ _ _ w6) => h _ (HI.out.below' (by first | exact below_drewN (Below.refl _ _) _ | exact below_drewN (below_drewN (Below.refl _ _) _) _))) ?_
              intro w6 I6
              clear HI g_ g0 g1 r_ r0 r1 b_ b0 b1 hb d0 d1 l1 l2
              have HBS : w.heap.size + 1 + 1 + 1 ≤ w6.heap.size := by have := I6.box.lt; have := I6.ge; omega
              have HI6 := Lib.hid I6
              clear I6
              obtain ⟨⟨g_, g0, g1⟩, ⟨r_, r0, r1⟩, _, ⟨b_, b0, b1⟩, _, _, _, _, hbel⟩ := HI6.out
              obtain ⟨_, _, eA, hb, d0, d1⟩ := (hA.below hbel) k x HX.out
              injection eA with eA
              injection eA with eA1 eA2
              subst eA1; subst eA2
              clear hbel
              go_region_law ((refine step_append_lies _ rfl _ _ 23 rfl (w.heap.size + 1 + 1 + 1) 55 i0 (.agg #[.string ⟨#[]⟩, .string ⟨#[]⟩]) 2 32 Try.underlying23 hi0 hz0 hz1 hz2 rfl (by decide) (.slice A' (acc).length c') (acc).length ((acc).flatMap rv) (by simp [Act.eval]) (by exact (HI6.out.below' (by first | exact (Below.refl _ _).drew.alloc (Nat.le_refl _) _ | exact (below_alloc _ _).drew | exact below_alloc _ _)).own) ⟨w6.heap.size, 0, none⟩ 1 1 (rv x) (by simp [Act.eval]) rfl (by exact World.news_of_block (heap_alloc_new _ _)) (rule_one x) (by decide) (by unfold maxLen; omega) (by omega) (by exact Nat.le_trans HBS (size_alloc_lt _ _)) _ rfl ?_; intro g cap w9 ho9 hg9 hor9 hlt9; obtain ⟨⟨vv, hvv⟩, hff⟩ := (HI6.out.below' (by first | exact (Below.refl _ _).drew.alloc (Nat.le_refl _) _ | exact (below_alloc _ _).drew | exact below_alloc _ _)).can6 hg9; have I9 := Lib.hid ((HI6.out.below' (by first | exact (Below.refl _ _).drew.alloc (Nat.le_refl _) _ | exact (below_alloc _ _).drew | exact below_alloc _ _)).push x hg9 ho9 hor9 rfl); clear ho9 hg9 hor9 hlt9))
              all_goals
                go_wp2_with fail
                go_roundw
                case rel => exact ⟨k + 1, acc ++ [x], false, _, _, by omega, by go_num, rfl, HSN2, by simp; omega, by simp; omega, I9⟩
                case measure => simp [intOf]; omega
            · rw [decide_eq_false hls] at l1
              go_wp2_with fail
              go_quiet (fail)
              have HBS : w.heap.size + 1 + 1 + 1 ≤ wr.heap.size := by have := HI.out.box.lt; omega
              go_wp2_with (at_builtin; refine wpList_append_lies _ rfl _ _ 23 rfl (w.heap.size + 1 + 1 + 1) 55 i0 (.agg #[.string ⟨#[]⟩, .string ⟨#[]⟩]) 2 32 Try.underlying23 hi0 hz0 hz1 hz2 rfl (by decide) _ acc.length (acc.flatMap rv) rfl (HI.out.below' ((below_drewN (Below.refl _ _) _).alloc (Nat.le_refl _) _)).own ⟨wr.heap.size, 0, none⟩ 1 1 (rv r) rfl rfl (World.news_of_block (heap_alloc_new _ _)) (rule_one r) (by decide) (by unfold maxLen; omega) (by omega) (Nat.le_trans HBS (size_alloc_lt _ _)) _ rfl ?_)
              intro g cap w8 ho8 hg8 hor8 hlt8
              obtain ⟨⟨vv, hvv⟩, hff⟩ := (HI.out.below' ((below_drewN (Below.refl _ _) _).alloc (Nat.le_refl _) _)).can6 hg8
              have I8 := Lib.hid ((HI.out.below' ((below_drewN (Below.refl _ _) _).alloc (Nat.le_refl _) _)).push r hg8 ho8 hor8 (by simp))
              clear ho8 hg8 hor8 hlt8 HI g_ g0 g1 r_ r0 r1 b_ b0 b1 hb d0 d1
              go_wp2_with fail
              refine (fun (h : ∀ w6, PutI w w6 p s (some ⟨b, o, none⟩) c rs r (acc ++ [r]) (some ⟨g, 0, none⟩) cap → Code.wp Try.prog _ _ _ w6) => h _ (I8.out)) ?_
              intro w5 I5
              clear I8 hvv hff
              have HI5 := Lib.hid I5
              clear I5
              obtain ⟨⟨g_, g0, g1⟩, ⟨r_, r0, r1⟩, _, ⟨b_, b0, b1⟩, _, _, _, _, hbel⟩ := HI5.out
              obtain ⟨_, _, eA, hb, d0, d1⟩ := (hA.below hbel) k x HX.out
              injection eA with eA
              injection eA with eA1 eA2
              subst eA1; subst eA2
              clear hbel
              by_cases heq : hdI x.1 = hdI r.1
              · have HSN2 : Hid (putF (fun x : RuleV => hdI x.1) r (rs.take (k + 1)) = (acc ++ [r], true)) := Lib.hid (by rw [HSN.out]; unfold putS; rw [if_pos (by simp; omega)]; simp [heq])
                rw [decide_eq_true heq] at l2
                clear heq HSN l1 hls
                go_quiet (fail)
                go_wp2_with fail
                go_roundw
                case rel => exact ⟨k + 1, acc ++ [r], true, (some ⟨g, 0, none⟩), cap, by omega, by go_num, rfl, HSN2, by simp; omega, by simp, Lib.hid (HI5.out.below' (by first | exact below_drewN (Below.refl _ _) _ | exact below_drewN (below_drewN (Below.refl _ _) _) _))⟩
                case measure => simp [intOf]; omega
              · have HSN2 : Hid (putF (fun x : RuleV => hdI x.1) r (rs.take (k + 1)) = (acc ++ [r] ++ [x], true)) := Lib.hid (by rw [HSN.out]; unfold putS; rw [if_pos (by simp; omega)]; simp [heq])
                rw [decide_eq_false heq] at l2
                clear heq HSN l1 hls
                go_quiet (fail)
                go_wp2_with fail
                refine (fun (h : ∀ w6, PutI w w6 p s (some ⟨b, o, none⟩) c rs r (acc ++ [r]) (some ⟨g, 0, none⟩) cap → Code.wp Try.prog _ _ _ w6) => h _ (HI5.out.below' (by first | exact below_drewN (Below.refl _ _) _ | exact below_drewN (below_drewN (Below.refl _ _) _) _))) ?_
                intro w6 I6
                clear HI5 g_ g0 g1 r_ r0 r1 b_ b0 b1 hb d0 d1 l2
                have HBS : w.heap.size + 1 + 1 + 1 ≤ w6.heap.size := by have := I6.box.lt; have := I6.ge; omega
                have HI6 := Lib.hid I6
                clear I6
                obtain ⟨⟨g_, g0, g1⟩, ⟨r_, r0, r1⟩, _, ⟨b_, b0, b1⟩, _, _, _, _, hbel⟩ := HI6.out
                obtain ⟨_, _, eA, hb, d0, d1⟩ := (hA.below hbel) k x HX.out
                injection eA with eA
                injection eA with eA1 eA2
                subst eA1; subst eA2
                clear hbel
                go_region_law ((refine step_append_lies _ rfl _ _ 23 rfl (w.heap.size + 1 + 1 + 1) 55 i0 (.agg #[.string ⟨#[]⟩, .string ⟨#[]⟩]) 2 32 Try.underlying23 hi0 hz0 hz1 hz2 rfl (by decide) (.slice (some ⟨g, 0, none⟩) (acc ++ [r]).length cap) (acc ++ [r]).length ((acc ++ [r]).flatMap rv) (by simp [Act.eval]) (by exact (HI6.out.below' (by first | exact (Below.refl _ _).drew.alloc (Nat.le_refl _) _ | exact (below_alloc _ _).drew | exact below_alloc _ _)).own) ⟨w6.heap.size, 0, none⟩ 1 1 (rv x) (by simp [Act.eval]) rfl (by exact World.news_of_block (heap_alloc_new _ _)) (rule_one x) (by decide) (by unfold maxLen; rw [List.length_append]; simp; omega) (by rw [List.length_append]; simp; omega) (by exact Nat.le_trans HBS (size_alloc_lt _ _)) _ rfl ?_; intro g cap w9 ho9 hg9 hor9 hlt9; obtain ⟨⟨vv, hvv⟩, hff⟩ := (HI6.out.below' (by first | exact (Below.refl _ _).drew.alloc (Nat.le_refl _) _ | exact (below_alloc _ _).drew | exact below_alloc _ _)).can6 hg9; have I9 := Lib.hid ((HI6.out.below' (by first | exact (Below.refl _ _).drew.alloc (Nat.le_refl _) _ | exact (below_alloc _ _).drew | exact below_alloc _ _)).push x hg9 ho9 hor9 rfl); clear ho9 hg9 hor9 hlt9))
                all_goals
                  go_wp2_with fail
                  go_roundw
                  case rel => exact ⟨k + 1, acc ++ [r] ++ [x], true, _, _, by omega, by go_num, rfl, HSN2, by simp; omega, by simp, Lib.hid (by have h9 := I9.out; rw [show (acc ++ [r]).length = acc.length + 1 by simp] at h9; exact h9)⟩
                  case measure => simp [intOf]; omega
          · clear haf
            by_cases heq : hdI x.1 = hdI r.1
            · have HSN2 : Hid (putF (fun x : RuleV => hdI x.1) r (rs.take (k + 1)) = (acc, true)) := Lib.hid (by rw [HSN.out]; unfold putS; simp [heq])
              rw [decide_eq_true heq] at l2
              clear l1 heq HSN
              go_wp2_with fail
              go_quiet (fail)
              go_wp2_with fail
              go_quiet (fail)
              go_wp2_with fail
              go_roundw
              case rel => exact ⟨k + 1, acc, true, A', c', by omega, by go_num, rfl, HSN2, by omega, by simp, Lib.hid (HI.out.below' (by first | exact below_drewN (Below.refl _ _) _ | exact below_drewN (below_drewN (Below.refl _ _) _) _))⟩
              case measure => simp [intOf]; omega
            · have HSN2 : Hid (putF (fun x : RuleV => hdI x.1) r (rs.take (k + 1)) = (acc ++ [x], true)) := Lib.hid (by rw [HSN.out]; unfold putS; simp [heq])
              rw [decide_eq_false heq] at l2
              clear l1 heq HSN
              go_wp2_with fail
              go_quiet (fail)
              go_wp2_with fail
              go_quiet (fail)
              go_wp2_with fail
              refine (fun (h : ∀ w6, PutI w w6 p s (some ⟨b, o, none⟩) c rs r (acc) A' c' → Code.wp Try.prog _ _ _ w6) => h _ (HI.out.below' (by first | exact below_drewN (Below.refl _ _) _ | exact below_drewN (below_drewN (Below.refl _ _) _) _))) ?_
              intro w6 I6
              clear HI g_ g0 g1 r_ r0 r1 b_ b0 b1 hb d0 d1 l2
              have HBS : w.heap.size + 1 + 1 + 1 ≤ w6.heap.size := by have := I6.box.lt; have := I6.ge; omega
              have HI6 := Lib.hid I6
              clear I6
              obtain ⟨⟨g_, g0, g1⟩, ⟨r_, r0, r1⟩, _, ⟨b_, b0, b1⟩, _, _, _, _, hbel⟩ := HI6.out
              obtain ⟨_, _, eA, hb, d0, d1⟩ := (hA.below hbel) k x HX.out
              injection eA with eA
              injection eA with eA1 eA2
              subst eA1; subst eA2
              clear hbel
              go_region_law ((refine step_append_lies _ rfl _ _ 23 rfl (w.heap.size + 1 + 1 + 1) 55 i0 (.agg #[.string ⟨#[]⟩, .string ⟨#[]⟩]) 2 32 Try.underlying23 hi0 hz0 hz1 hz2 rfl (by decide) (.slice A' (acc).length c') (acc).length ((acc).flatMap rv) (by simp [Act.eval]) (by exact (HI6.out.below' (by first | exact (Below.refl _ _).drew.alloc (Nat.le_refl _) _ | exact (below_alloc _ _).drew | exact below_alloc _ _)).own) ⟨w6.heap.size, 0, none⟩ 1 1 (rv x) (by simp [Act.eval]) rfl (by exact World.news_of_block (heap_alloc_new _ _)) (rule_one x) (by decide) (by unfold maxLen; omega) (by omega) (by exact Nat.le_trans HBS (size_alloc_lt _ _)) _ rfl ?_; intro g cap w9 ho9 hg9 hor9 hlt9; obtain ⟨⟨vv, hvv⟩, hff⟩ := (HI6.out.below' (by first | exact (Below.refl _ _).drew.alloc (Nat.le_refl _) _ | exact (below_alloc _ _).drew | exact below_alloc _ _)).can6 hg9; have I9 := Lib.hid ((HI6.out.below' (by first | exact (Below.refl _ _).drew.alloc (Nat.le_refl _) _ | exact (below_alloc _ _).drew | exact below_alloc _ _)).push x hg9 ho9 hor9 rfl); clear ho9 hg9 hor9 hlt9))
              all_goals
                go_wp2_with fail
                go_roundw
                case rel => exact ⟨k + 1, acc ++ [x], true, _, _, by omega, by go_num, rfl, HSN2, by simp; omega, by simp, I9⟩
                case measure => simp [intOf]; omega
        · obtain rfl : k = rs.length := by omega
          have HQ := HF.out
          rw [List.take_length] at HQ
          have HE : Hid ((if f then acc else acc ++ [r]) = putL (fun x : RuleV => hdI x.1) r rs) := Lib.hid (by rw [← putE_eq HP.out.2]; unfold putE; rw [HQ])
          clear HF HQ hbel
          cases f
          · have HE2 : Hid (putL (fun x : RuleV => hdI x.1) r rs = acc ++ [r]) := Lib.hid (by rw [← HE.out]; rfl)
            have hal2 := haf rfl
            clear HE haf hal
            have HBS : w.heap.size + 1 + 1 + 1 ≤ wr.heap.size := by have := HI.out.box.lt; omega
            go_wp2_with (at_builtin; refine wpList_append_lies _ rfl _ _ 23 rfl (w.heap.size + 1 + 1 + 1) 55 i0 (.agg #[.string ⟨#[]⟩, .string ⟨#[]⟩]) 2 32 Try.underlying23 hi0 hz0 hz1 hz2 rfl (by decide) _ acc.length (acc.flatMap rv) rfl (HI.out.below' (below_alloc _ _)).own ⟨wr.heap.size, 0, none⟩ 1 1 (rv r) rfl rfl (World.news_of_block (heap_alloc_new _ _)) (rule_one r) (by decide) (by unfold maxLen; omega) (by omega) (Nat.le_trans HBS (size_alloc_lt _ _)) _ rfl ?_)
            intro g cap w8 ho8 hg8 hor8 hlt8
            obtain ⟨⟨vv, hvv⟩, hff⟩ := (HI.out.below' (below_alloc _ _)).can6 hg8
            have I8 := Lib.hid ((HI.out.below' (below_alloc _ _)).push r hg8 ho8 hor8 (by simp))
            clear ho8 hg8 hor8 hlt8 HI g_ g0 g1 r_ r0 r1 b_ b0 b1
            go_wp2_with fail
            obtain ⟨w9, hw9⟩ : ∃ w9, w9 = w8.setCell ⟨p, 1, none⟩ (.slice (some ⟨g, 0, none⟩) (acc.length + 1) cap) := ⟨_, rfl⟩
            have I9 : Hid (PutI w w9 p s A c rs r (acc ++ [r]) (some ⟨g, 0, none⟩) cap) := Lib.hid (by rw [hw9]; exact I8.out)
            rw [← hw9]
            clear hw9 I8 hvv hff
            have hl9 : (acc ++ [r]).length ≤ 9 := by rw [← HE2.out]; have := putL_len (h := fun x : RuleV => hdI x.1) (r := r) (l := rs); omega
            have hzl : ∀ x ∈ acc ++ [r], x.1.size ≤ maxLen ∧ x.2.size ≤ maxLen := fun x hx => by
              rw [← HE2.out] at hx
              rcases putL_mem hx with e | e
              · rw [e]; exact ⟨z1, z2⟩
              · exact hz x e
            obtain ⟨A2, c2, eA, hRd⟩ := own_rrd I9.out.own
            injection eA with eA1 eAn eA2
            clear eAn
            subst eA1; subst eA2
            have V := l04Is_any s (some ⟨g, 0, none⟩) cap p (acc ++ [r]) _ hRd (by unfold maxLen; omega) hs hzl I9.out.box.c0 I9.out.box.c1
            refine V.mono ?_
            clear V
            rintro e w11 ⟨rfl, n11, hw11⟩
            have I11 := Lib.hid (I9.out.below' (wa := w11) (by rw [hw11]; exact below_drewN (Below.refl _ _) _))
            clear hw11 hRd hl9 hzl I9
            obtain ⟨_, _, ZC, _, _, _, _, hge2, K11⟩ := I11.out
            obtain ⟨p_, p0, p1⟩ := I11.out.box
            cases hV : gramB s (acc ++ [r])
            · have HV : Hid (putV s rs r = none) := Lib.hid (by unfold putV; rw [HG.out.1, HG.out.2, HE2.out, hV]; rfl)
              clear hV
              obtain ⟨q0, q1⟩ := ZC.read (.string ⟨#[]⟩) (.slice none 0 0)
              obtain ⟨z_, ⟨x0, u0⟩, ⟨x1, u1⟩, zf0, zf1⟩ := ZC
              have HQ := Lib.hid (And.intro q0 q1)
              clear q0 q1
              go_wp2
              obtain ⟨q0, q1⟩ := HQ.out
              refine bodyPost_ret (v := .tuple #[.agg #[.string ⟨#[]⟩, .slice none 0 0], .bool false]) (by simp [results, Try.results44, go_sem, q0, q1]) rfl ?_
              rw [HV.out]
              exact ⟨(K11.setCell (by simp only []; omega) _).setCell (by simp only []; omega) _, rfl⟩
            · have HV : Hid (putV s rs r = some (acc ++ [r])) := Lib.hid (by unfold putV; rw [HG.out.1, HG.out.2, HE2.out, hV]; rfl)
              clear hV
              obtain ⟨n, hn2⟩ : ∃ n, n = (acc ++ [r]).length := ⟨_, rfl⟩
              rw [← hn2] at p1
              have HN2 := Lib.hid hn2
              clear hn2
              obtain ⟨q0, q1⟩ := ZC.read (.string s) (.slice (some ⟨g, 0, none⟩) n cap)
              obtain ⟨z_, ⟨x0, u0⟩, ⟨x1, u1⟩, zf0, zf1⟩ := ZC
              have HQ := Lib.hid (And.intro q0 q1)
              clear q0 q1
              go_wp2
              obtain ⟨q0, q1⟩ := HQ.out
              refine bodyPost_ret (v := .tuple #[.agg #[.string s, .slice (some ⟨g, 0, none⟩) n cap], .bool true]) (by simp [results, Try.results44, go_sem, q0, q1]) rfl ?_
              rw [HV.out, HN2.out]
              refine ⟨(K11.setCell (by simp only []; omega) _).setCell (by simp only []; omega) _, _, rfl, ?_⟩
              exact own_le (ownsRow_setCell_below (ownsRow_setCell_below I11.out.own (by show w.heap.size + 1 + 1 < _; omega) _) (by show w.heap.size + 1 + 1 < _; omega) _) (by omega)
          · have HE2 : Hid (putL (fun x : RuleV => hdI x.1) r rs = acc) := Lib.hid (by rw [← HE.out]; rfl)
            clear HE haf
            go_wp2_with fail
            clear g_ g0 g1 r_ r0 r1 b_ b0 b1
            have hl9 : (acc).length ≤ 9 := by rw [← HE2.out]; have := putL_len (h := fun x : RuleV => hdI x.1) (r := r) (l := rs); omega
            have hzl : ∀ x ∈ acc, x.1.size ≤ maxLen ∧ x.2.size ≤ maxLen := fun x hx => by
              rw [← HE2.out] at hx
              rcases putL_mem hx with e | e
              · rw [e]; exact ⟨z1, z2⟩
              · exact hz x e
            obtain ⟨A2, c2, eA, hRd⟩ := own_rrd HI.out.own
            injection eA with eA1 eAn eA2
            clear eAn
            subst eA1; subst eA2
            have V := l04Is_any s A' c' p (acc) _ hRd (by unfold maxLen; omega) hs hzl HI.out.box.c0 HI.out.box.c1
            refine V.mono ?_
            clear V
            rintro e w11 ⟨rfl, n11, hw11⟩
            have I11 := Lib.hid (HI.out.below' (wa := w11) (by rw [hw11]; exact below_drewN (Below.refl _ _) _))
            clear hw11 hRd hl9 hzl HI
            obtain ⟨_, _, ZC, _, _, _, _, hge2, K11⟩ := I11.out
            obtain ⟨p_, p0, p1⟩ := I11.out.box
            cases hV : gramB s (acc)
            · have HV : Hid (putV s rs r = none) := Lib.hid (by unfold putV; rw [HG.out.1, HG.out.2, HE2.out, hV]; rfl)
              clear hV
              obtain ⟨q0, q1⟩ := ZC.read (.string ⟨#[]⟩) (.slice none 0 0)
              obtain ⟨z_, ⟨x0, u0⟩, ⟨x1, u1⟩, zf0, zf1⟩ := ZC
              have HQ := Lib.hid (And.intro q0 q1)
              clear q0 q1
              go_wp2
              obtain ⟨q0, q1⟩ := HQ.out
              refine bodyPost_ret (v := .tuple #[.agg #[.string ⟨#[]⟩, .slice none 0 0], .bool false]) (by simp [results, Try.results44, go_sem, q0, q1]) rfl ?_
              rw [HV.out]
              exact ⟨(K11.setCell (by simp only []; omega) _).setCell (by simp only []; omega) _, rfl⟩
            · have HV : Hid (putV s rs r = some (acc)) := Lib.hid (by unfold putV; rw [HG.out.1, HG.out.2, HE2.out, hV]; rfl)
              clear hV
              obtain ⟨n, hn2⟩ : ∃ n, n = (acc).length := ⟨_, rfl⟩
              rw [← hn2] at p1
              have HN2 := Lib.hid hn2
              clear hn2
              obtain ⟨q0, q1⟩ := ZC.read (.string s) (.slice A' n c')
              obtain ⟨z_, ⟨x0, u0⟩, ⟨x1, u1⟩, zf0, zf1⟩ := ZC
              have HQ := Lib.hid (And.intro q0 q1)
              clear q0 q1
              go_wp2
              obtain ⟨q0, q1⟩ := HQ.out
              refine bodyPost_ret (v := .tuple #[.agg #[.string s, .slice A' n c'], .bool true]) (by simp [results, Try.results44, go_sem, q0, q1]) rfl ?_
              rw [HV.out, HN2.out]
              refine ⟨(K11.setCell (by simp only []; omega) _).setCell (by simp only []; omega) _, _, rfl, ?_⟩
              exact own_le (ownsRow_setCell_below (ownsRow_setCell_below I11.out.own (by show w.heap.size + 1 + 1 < _; omega) _) (by show w.heap.size + 1 + 1 < _; omega) _) (by omega)
end Go.Proofs.Ytfblpibioegmkaa
