/- The program's LettersAfter. -/
import Derived.Test.YtfblpibioegmkaaL3
import Derived.Test.YtfblpibioegmkaaAW
namespace Go.Proofs.Ytfblpibioegmkaa
open Go.RowKit

theorem Tabl.below {w w' : World} {base : Nat} {v : Value} {k : Nat} {F : Nat → Nat → Int} {gs : List Nat} (h : Tabl w base v k F gs) (kk : Below w.heap.size w w') : Tabl w' base v k F gs :=
  ⟨h.len, own_keep h.own (Keep.of_below (S := fun _ => False) kk) (fun _ _ => id), fun i hi => ⟨(h.vec i hi).1, (h.vec i hi).2.1.below kk, (h.vec i hi).2.2⟩⟩
/-- A new list of the table: one of its own at its place. -/
theorem Tabl.set {w : World} {base : Nat} {v : Value} {k : Nat} {F : Nat → Nat → Int} {gs : List Nat} (h : Tabl w base v k F gs) (g j : Nat) (x : Value) (h1 : v.ownBlock ≠ some g) (h2 : ∀ i (hi : i < gs.length), gs[i] ≠ g) : Tabl (w.setCell ⟨g, j, none⟩ x) base v k F gs := by
  have kk := (Keep.refl (fun k => k = g) w).setCell (p := ⟨g, j, none⟩) (.inl rfl) x
  exact ⟨h.len, own_keep h.own kk (fun b hb e => h1 (e ▸ hb)), fun i hi => ⟨(h.vec i hi).1, (h.vec i hi).2.1.keep kk (h2 i hi), (h.vec i hi).2.2⟩⟩
theorem Tabl.all_lt {w : World} {base : Nat} {v : Value} {k : Nat} {F : Nat → Nat → Int} {gs : List Nat} (h : Tabl w base v k F gs) : (∀ g, v.ownBlock = some g → g < w.heap.size) ∧ ∀ i (hi : i < gs.length), gs[i] < w.heap.size :=
  ⟨fun g hg => (h.own.lt g hg).2, fun i hi => (h.vec i hi).2.1.lt⟩
/-- One list more. -/
theorem Tabl.push {w w' : World} {base g : Nat} {v v' : Value} {k : Nat} {F : Nat → Nat → Int} {gs : List Nat} (h : Tabl w base v k F gs) (hg : base ≤ g) (hv : Vec w g (F k)) (hne : v.ownBlock ≠ some g)
    (ho : w'.ownsRow base 45 1 v' (k + 1) (gs.map (fun g => Value.slice (some ⟨g, 0, none⟩) 27 27) ++ [.slice (some ⟨g, 0, none⟩) 27 27])) (kk : Keep (fun b => v.ownBlock = some b) w w') (hp : ∀ b, v'.ownBlock = some b → v.ownBlock = some b ∨ w.heap.size < b) :
    Tabl w' base v' (k + 1) F (gs ++ [g]) := by
  refine ⟨by rw [List.length_append, h.len]; rfl, by rw [List.map_append]; exact ho, fun i hi => ?_⟩
  rw [List.length_append] at hi
  by_cases hl : i < gs.length
  · rw [List.getElem_append_left hl]
    obtain ⟨a, b, c⟩ := h.vec i hl
    refine ⟨a, b.keep kk c, fun e => ?_⟩
    rcases hp _ e with h2 | h2
    · exact c h2
    · have := b.lt; omega
  · obtain rfl : i = gs.length := by simp at hi; omega
    rw [List.getElem_append_right (Nat.le_refl _)]
    simp only [Nat.sub_self, List.getElem_cons_zero]
    refine ⟨hg, (by rw [h.len]; exact hv.keep kk hne), fun e => ?_⟩
    rcases hp _ e with h2 | h2
    · exact hne h2
    · have := hv.lt; omega
theorem Tab2.drew {w : World} {base b : Nat} {F : Nat → Nat → Int} {G : Nat → Nat} (h : Tab2 w base b F G) : Tab2 w.drew base b F G := ⟨h.lt, h.c, h.z, fun j hj => ⟨(h.vec j hj).1, (h.vec j hj).2.1.drew, (h.vec j hj).2.2⟩⟩
theorem gram_len {s : ByteArray} {rs : List RuleV} (h : gramB s rs = true) : rs.length ≤ 8 := by
  unfold gramB at h
  rw [Bool.and_eq_true, Bool.and_eq_true, decide_eq_true_eq] at h
  exact h.2.2
theorem Vec.grown {w w' : World} {b : Nat} {f : Nat → Int} (h : Vec w b f) (k : Below w.heap.size w w') : Vec w' b f := h.below k
set_option maxRecDepth 100000 in
set_option maxHeartbeats 8000000 in
theorem implLA_yes (s : ByteArray) (A : Option Addr) (c : Nat) (rs : List RuleV) (n : Nat) (w : World) (hA : RRd w A rs) (hn : rs.length ≤ maxLen) (hs : s.size ≤ maxLen) (hz : ∀ r ∈ rs, r.1.size ≤ maxLen ∧ r.2.size ≤ maxLen) (hG : gramB s rs = true) (h64 : n ≤ 64) :
    Calls Try.prog 39 #[.agg #[.string s, .slice A rs.length c], .int .i64 n] w (AftR w (itF rs s n) (itO rs s n)) := by
  obtain ⟨i0, hi, hz0, hz1, hz2⟩ := info_parts info.i64
  obtain ⟨is, hsi, hsz0, hsz1, hsz2⟩ := info_parts info.s64
  have hd : (decide (0 ≤ (n : Int)) && decide ((n : Int) ≤ 64)) = true := by simp; omega
  have hss := gram_start hG
  have hl8 := gram_len hG
  go_enter Try.func39, Try.ntmps39
  go_wp2_with fail
  refine (implVG_any s A c rs _ (hA.below (below_alloc _ _)) hn hs hz).mono ?_
  rintro e w1 ⟨rfl, k1⟩
  rw [hG]
  have K1 : Below w.heap.size w w1 := Below.step (below_alloc _ _) k1
  have f0 : w1.cell? ⟨w.heap.size, 0, none⟩ = some (.string s) := (k1.cell (by simp)).trans (by simp)
  have f1 : w1.cell? ⟨w.heap.size, 1, none⟩ = some (.slice A rs.length c) := (k1.cell (by simp)).trans (by simp)
  have z1 : w.heap.size < w1.heap.size := by have := k1.size; simp at this; omega
  have hA1 := hA.below K1
  clear k1
  go_wp2_with fail
  refine (within_any _ _ _ _).mono ?_
  rintro e w2 ⟨rfl, rfl⟩
  rw [hd]
  go_wp2_with fail
  obtain ⟨wa, hwa⟩ : ∃ wa, wa = w1.alloc (.cells #[] 45) := ⟨_, rfl⟩
  have T0 : Tabl wa w1.heap.size (.slice (some ⟨w1.heap.size, 0, none⟩) 0 0) 0 unitF [] := ⟨rfl, hwa ▸ own_made0 w1 w1.heap.size 45 (Nat.le_refl _), fun i h => absurd h (Nat.not_lt_zero _)⟩
  have Ka : Below w1.heap.size w1 wa := hwa ▸ below_alloc _ _
  rw [← hwa]
  clear hwa
  go_loopw [6, 26] (fun mv iv wr => ∃ k : Nat, ∃ gs : List Nat, k ≤ 27 ∧ iv = .int .i64 k ∧ Tabl wr w1.heap.size mv k unitF gs ∧ Below w1.heap.size w1 wr) (fun _ iv _ => 27 - (intOf iv).toNat)
  case atStart => exact ⟨0, [], Nat.zero_le _, rfl, T0, Ka⟩
  case round =>
    clear T0 Ka
    obtain ⟨k, gs, hk, rfl, hT, hbel⟩ := hrel
    obtain ⟨Av, cv, rfl⟩ := own_slice hT.own
    obtain ⟨wo, hwo⟩ : ∃ wo, wo = wr := ⟨_, rfl⟩
    subst hwo
    by_cases hlt : k < 27
    · have hki : (k : Int) < 27 := by omega
      go_wp2_with (first | (at_make; refine wpList_make_full _ rfl _ _ 45 rfl wo.heap.size 2 i0 (.int .i64 0) 1 Try.underlying45 hi hz0 hz1 _ _ _ _ 27 rfl rfl rfl rfl (by rw [hz2]; omega) (by unfold maxLen; omega) (Nat.le_refl _) ?_))
      intro wn hown hgrow
      have hbn : Below wo.heap.size wo wn := (Below.refl _ _).grown hgrow (Nat.le_refl _) (fun k h => by cases h)
      have hvn := vec_own hown
      have hsz3 := hbel.size
      have hT2 := hT.below hbn
      have hgl : wo.heap.size < wn.heap.size := hvn.lt
      have KN := Below.step hbel hbn
      have c0 := hvn.c k hlt
      have e0 := hvn.z k hlt
      have hq := (hvn.put k 1)
      have hne : Value.ownBlock (.slice Av k cv) ≠ some wo.heap.size := fun e => by have := hT.all_lt.1 _ e; omega
      have hT3 := hT2.set wo.heap.size k (.int .i64 1) hne (fun i hi e => by have := hT.all_lt.2 i hi; omega)
      have Kq := KN.setCell (p := ⟨wo.heap.size, k, none⟩) hbel.size (.int .i64 1)
      clear hown hgrow hbel hbn hT hT2 hvn KN
      have hb3 : w1.heap.size ≤ (wn.setCell ⟨wo.heap.size, k, none⟩ (.int .i64 1)).heap.size := Kq.size
      have hqk := hq.congr (g := unitF k) (fun j _ => rfl)
      go_wp2_with (at_builtin; refine wpList_pushK rfl _ _ 78 rfl w1.heap.size 45 is (.slice none 0 0) 24 Try.underlying78 hsi hsz0 hsz1 hsz2 rfl _ k _ rfl hT3.own 1 (by simp [Act.eval, World.setCell]) rfl (by unfold maxLen; omega) (by omega) hb3 ?_)
      intro v' w' hown' hk2 hpl
      have hT4 := hT3.push hsz3 hqk hne hown' hk2 (fun b hb => by simpa [World.setCell] using hpl b hb)
      have Kw : Below w1.heap.size w1 w' := hk2.below Kq hb3 (fun b hb => (hT3.own.lt b hb).1)
      clear hT3 hq hqk Kq hown' hk2 hpl
      go_wp2_with fail
      go_roundw
      case rel => exact ⟨k + 1, _, by omega, by go_num, hT4, Kw⟩
      case measure => simp [intOf]; omega
    · obtain rfl : k = 27 := by omega
      obtain ⟨b, cc, hv, hcc, hTT⟩ := tab2_of hT
      injection hv with hA1 hA2 hA3
      subst hA1 hA3
      clear hT
      generalize (fun j => gs.getD j 0) = G at hTT
      have g0 := (hbel.cell (p := ⟨w.heap.size, 0, none⟩) z1).trans f0
      have g1 := (hbel.cell (p := ⟨w.heap.size, 1, none⟩) z1).trans f1
      have zb : w.heap.size < b := Nat.lt_of_lt_of_le z1 hTT.lt.1
      have hsm := gram_small hG
      have hTT0 := hTT.congr (F' := tabF (rs.take 0)) (fun _ _ _ _ => rfl)
      clear hTT
      go_wp2_with fail
      go_loopw [41] (fun iv wr => ∃ k : Nat, ∃ G : Nat → Nat, k ≤ rs.length ∧ iv = .int .i64 k ∧ Tab2 wr w1.heap.size b (tabF (rs.take k)) G ∧ Below w1.heap.size w1 wr) (fun iv _ => rs.length - (intOf iv).toNat)
      case atStart => exact ⟨0, G, Nat.zero_le _, rfl, hTT0, hbel⟩
      case round =>
        clear hTT0 hbel g0 g1
        obtain ⟨k, G, hk, rfl, hT, hbel⟩ := hrel
        have hAr := hA1.below hbel
        by_cases hlt : k < rs.length
        · obtain ⟨rb, o, rfl, hb, d0, d1⟩ := hAr k rs[k] (by simp [hlt])
          obtain ⟨o1, o2, o3⟩ := oneL_of (gram_at hG hlt)
          have hr1 := ltrB_one' (gram_at hG hlt)
          have hr2 := hsm rs[k] (List.getElem_mem hlt)
          have htk : Hid (setF (tabF (rs.take k)) (hdI rs[k].1 - 65).toNat (cnt rs[k].2.data.toList) = tabF (rs.take (k + 1))) := Lib.hid (by
            have ht : rs.take (k + 1) = rs.take k ++ [rs[k]] := by simp
            rw [ht, tabF_snoc])
          have h0 : 0 < rs[k].1.size := by omega
          have e0 := hd_eq h0
          generalize rs[k] = r at d0 d1 o1 o2 o3 hr1 hr2 htk h0 e0
          obtain ⟨q, hq⟩ : ∃ q : Nat, hdI r.1 = 65 + q := ⟨(hdI r.1 - 65).toNat, by omega⟩
          rw [hq] at e0 htk o2
          have hq2 : ((65 : Int) + q - 65).toNat = q := by omega
          rw [hq2] at htk o2
          clear o1 o3 hq hq2
          have u1 : IntKind.u8.wrap ((65 : Int) + q - 65) = q := by rw [IntWalk.u8_in _ (by omega)]; omega
          have q1 : (q : Int) < 27 := by omega
          have qn : q < 27 := by omega
          have hw0 : 0 < wr.heap.size := by omega
          go_wp2_with fail
          obtain ⟨wx, hwx⟩ : ∃ wx, wx = wr.alloc (.cells #[.string r.1, .string r.2] 55) := ⟨_, rfl⟩
          have x0 : wx.cell? ⟨wr.heap.size, 0, none⟩ = some (.string r.1) := by rw [hwx]; simp
          have x1 : wx.cell? ⟨wr.heap.size, 1, none⟩ = some (.string r.2) := by rw [hwx]; simp
          have xl : wr.heap.size < wx.heap.size := by rw [hwx]; simp
          have Kx : Below wr.heap.size wr wx := by rw [hwx]; exact below_alloc _ _
          rw [← hwx]
          clear hwx
          have hTx := hT.below Kx
          have KX := hbel.trans (Kx.mono hbel.size)
          have bx : b ≠ wr.heap.size := by have := hT.lt.2; omega
          have bl : b < wx.heap.size := hTx.lt.2
          clear Kx hT hbel d0 d1
          have u2 : (UInt8.toNat (r.1[0]) : Int) - 65 = q := by rw [e0]; omega
          have u3 : IntKind.u8.wrap ((UInt8.toNat (r.1[0]) : Int) - 65) = q := by rw [u2]; exact IntWalk.u8_in _ (by omega)
          go_region_held3 (fun w' => w'.cell? ⟨wr.heap.size, 0, none⟩ = some (.string r.1) ∧ w'.cell? ⟨wr.heap.size, 1, none⟩ = some (.string r.2))
            (first | (exact ⟨x0, x1⟩) | (exact s5) | (exact s6 _))
            ((go_at_call 69; refine (lettersOf_any r.2 _ (by omega)).mono ?_; rintro e w5 ⟨g5, rfl, hg5, v5, k5⟩; have s5 := And.intro ((k5.cell (p := ⟨wr.heap.size, 0, none⟩) (by exact xl)).trans x0) ((k5.cell (p := ⟨wr.heap.size, 1, none⟩) (by exact xl)).trans x1); have s6 := (fun x => And.intro ((World.cell?_setCell_other _ _ _ _ (by intro h; injection h with h1; omega)).trans s5.1) ((World.cell?_setCell_other _ _ _ _ (by intro h; injection h with h1; omega)).trans s5.2) : ∀ x, (w5.setCell ⟨b, q, none⟩ x).cell? ⟨wr.heap.size, 0, none⟩ = some (.string r.1) ∧ (w5.setCell ⟨b, q, none⟩ x).cell? ⟨wr.heap.size, 1, none⟩ = some (.string r.2)); have hT5 := Tab2.below hTx.drew k5; have c5 := hT5.c q qn; have z5 := hT5.z q qn; have hg5' : wx.heap.size ≤ g5 := hg5; have K5 := Below.step KX.drew k5; have hpf := hT5.put q g5 (cnt r.2.data.toList) (Nat.le_trans KX.size hg5') v5 (by omega); rw [htk.out] at hpf; clear k5 hT5 v5))
          all_goals
            have K6 := K5.setCell (p := ⟨b, q, none⟩) hTx.lt.1 (.slice (some ⟨g5, 0, none⟩) 27 27)
            clear hTx K5 KX s5 s6 c5 z5
            go_wp2
          all_goals
            refine ⟨⟨k + 1, _, by omega, by go_num, hpf, K6⟩, ?_⟩
            simp [intOf]
            omega
        · obtain rfl : k = rs.length := by omega
          have hT2 := hT.congr (F' := mF rs) (fun i j hi hj => by rw [List.take_length]; exact tabF_mF hG i j hi)
          have g0 := (hbel.cell (p := ⟨w.heap.size, 0, none⟩) z1).trans f0
          clear hT
          go_wp2_with fail
          refine (lettersOf_any s _ (by omega)).mono ?_
          rintro e w5 ⟨g5, rfl, hg5, v5, k5⟩
          have hT3 := hT2.below k5
          have K5 := Below.step (Below.step K1 hbel) k5
          have hg5' : w.heap.size ≤ g5 := Nat.le_trans (Below.step K1 hbel).size hg5
          have hb3 := hT2.lt
          clear hT2 hbel g0 f0 f1 K1 hA1 k5
          have gb : g5 ≠ b := by omega
          have hb3' : w.heap.size ≤ b := by omega
          clear hb3 hcc zb
          go_wp2_with fail
          go_loopw [11, 59] (fun ov kv wr => ∃ k g : Nat, k ≤ n ∧ kv = .int .i64 k ∧ ov = .slice (some ⟨g, 0, none⟩) 27 27 ∧ w.heap.size ≤ g ∧ Vec wr g (itF rs s k) ∧ Hid (itO rs s k = true) ∧ Tab2 wr w1.heap.size b (mF rs) G ∧ Below w.heap.size w wr) (fun _ kv _ => n - (intOf kv).toNat)
          case atStart => exact ⟨0, g5, Nat.zero_le _, rfl, rfl, hg5', v5, Lib.hid rfl, hT3, K5⟩
          case round =>
            clear v5 hT3 K5 hg5' hg5 gb
            obtain ⟨k, g, hk, rfl, rfl, hg, hV, HO, hT, hbel⟩ := hrel
            obtain ⟨wp, hwp⟩ : ∃ wp, wp = wr := ⟨_, rfl⟩
            subst hwp
            by_cases hltn : k < n
            · have hF := fine_it hsm (by omega) k HO.out
              have hstep : Hid (itF rs s (k + 1) = stp rs (itF rs s k)) := Lib.hid rfl
              have hitO := Lib.hid (itO_succ rs s k)
              have hbad := Lib.hid (fun h => itO_bad (rs := rs) (s := s) hltn h)
              generalize itF rs s k = f at hV hF hstep
              go_wp2_with (first | (at_make; refine wpList_make_full _ rfl _ _ 45 rfl wp.heap.size 2 i0 (.int .i64 0) 1 Try.underlying45 hi hz0 hz1 _ _ _ _ 27 rfl rfl rfl rfl (by rw [hz2]; omega) (by unfold maxLen; omega) (Nat.le_refl _) ?_))
              intro wn hown hgrow
              have hbn : Below wp.heap.size wp wn := (Below.refl _ _).grown hgrow (Nat.le_refl _) (fun k h => by cases h)
              have hvn := vec_own hown
              have hVn := hV.below hbn
              have hTn := hT.below hbn
              have hgl : g < wp.heap.size := hV.lt
              have hbl : b < wp.heap.size := hT.lt.2
              have hGl : ∀ j, j < 27 → G j < wp.heap.size := fun j hj => (hT.vec j hj).2.1.lt
              have hzo : w.heap.size ≤ wp.heap.size := by omega
              have KN := Below.step hbel hbn
              have hS0 := hvn.congr (g := acc rs f 0) (fun j _ => rfl)
              have hSn : ∀ j, j < 27 → G j ≠ wp.heap.size := fun j hj => by have := hGl j hj; omega
              have hgn : g ≠ wp.heap.size := by omega
              have hbn2 : b ≠ wp.heap.size := by omega
              clear hown hgrow hbel hbn hV hT hvn hgl hbl hGl
              go_wp2_with fail
              go_loopw [64] (fun iv wr => ∃ i : Nat, i ≤ 27 ∧ iv = .int .i64 i ∧ Vec wr wp.heap.size (acc rs f i) ∧ Vec wr g f ∧ Tab2 wr w1.heap.size b (mF rs) G ∧ Below w.heap.size w wr) (fun iv _ => 27 - (intOf iv).toNat)
              case atStart => exact ⟨0, Nat.zero_le _, rfl, hS0, hVn, hTn, KN⟩
              case round =>
                clear hS0 hVn hTn KN
                obtain ⟨i, hi27, rfl, hS, hV, hT, hbel⟩ := hrel
                obtain ⟨wq, hwq⟩ : ∃ wq, wq = wr := ⟨_, rfl⟩
                subst hwq
                by_cases hil : i < 27
                · have hii : (i : Int) < 27 := by omega
                  have c1 := hV.c i hil
                  have c2 := hT.c i hil
                  obtain ⟨_, hM, hMb⟩ := hT.vec i hil
                  have hGi := hSn i hil
                  generalize G i = gi at c2 hM hMb hGi
                  have hfi := Lib.hid (hF i hil)
                  have hS4 := hS.congr (g := part (acc rs f i) (acc rs f (i + 1)) 0) (fun j _ => by unfold part; rw [if_neg (by omega)])
                  clear hS
                  go_wp2_with fail
                  go_loopw [74] (fun jv wr => ∃ j : Nat, j ≤ 27 ∧ jv = .int .i64 j ∧ Vec wr wp.heap.size (part (acc rs f i) (acc rs f (i + 1)) j) ∧ Vec wr g f ∧ Vec wr gi (mF rs i) ∧ Tab2 wr w1.heap.size b (mF rs) G ∧ Below w.heap.size w wr) (fun iv _ => 27 - (intOf iv).toNat)
                  case atStart => exact ⟨0, Nat.zero_le _, rfl, hS4, hV, hM, hT, hbel⟩
                  case round =>
                    clear hS4 hV hM hT hbel c1 c2
                    obtain ⟨j, hj27, rfl, hS, hV, hM, hT, hbel⟩ := hrel
                    by_cases hjl : j < 27
                    · have hji : (j : Int) < 27 := by omega
                      have c1 := hS.c j hjl
                      have z1' := hS.z j hjl
                      have c3 := hM.c j hjl
                      have hpj : part (acc rs f i) (acc rs f (i + 1)) j j = acc rs f i j := by unfold part; rw [if_neg (by omega)]
                      rw [hpj] at c1
                      have hst : acc rs f i j + f i * mF rs i j = acc rs f (i + 1) j := rfl
                      have m1 := mul_bd hfi.out (mF_bd hsm i j)
                      have m2 := acc_bd hsm hF j (i + 1) (by omega)
                      have m3 : ((i + 1 : Nat) : Int) * 32000000000000 ≤ 27 * 32000000000000 := by omega
                      have wm : IntKind.i64.wrap (f i * mF rs i j) = f i * mF rs i j := IntWalk.i64_in _ (by omega)
                      have ws : IntKind.i64.wrap (acc rs f i j + f i * mF rs i j) = acc rs f i j + f i * mF rs i j := IntWalk.i64_in _ (by omega)
                      have hS' := Lib.hid ((hS.put j (acc rs f i j + f i * mF rs i j)).congr (g := part (acc rs f i) (acc rs f (i + 1)) (j + 1)) (fun t _ => by rw [hst]; exact part_put _ _ j t))
                      have kk := (Keep.refl (fun k => k = wp.heap.size) wr).setCell (p := ⟨wp.heap.size, j, none⟩) (.inl rfl) (.int .i64 (acc rs f i j + f i * mF rs i j))
                      have hV' := Lib.hid (hV.keep kk hgn)
                      have hM' := Lib.hid (hM.keep kk hGi)
                      have hT' := Lib.hid (hT.keep kk hbn2 hSn)
                      have K' := Lib.hid (hbel.setCell (p := ⟨wp.heap.size, j, none⟩) hzo (.int .i64 (acc rs f i j + f i * mF rs i j)))
                      clear kk hst m3 hS hV hM hT hbel
                      generalize acc rs f i j = aS at *
                      generalize mF rs i j = aM at *
                      generalize f i = aF at *
                      go_wp2_with fail
                      go_roundw
                      case rel => exact ⟨j + 1, by omega, by go_num, hS'.out, hV'.out, hM'.out, hT'.out, K'.out⟩
                      case measure => simp [intOf]; omega
                    · obtain rfl : j = 27 := by omega
                      have hS5 := hS.congr (g := acc rs f (i + 1)) (fun t ht => by unfold part; rw [if_pos ht])
                      clear hS
                      go_wp2_with fail
                      go_roundw
                      case rel => exact ⟨i + 1, by omega, by go_num, hS5, hV, hT, hbel⟩
                      case measure => simp [intOf]; omega
                · obtain rfl : i = 27 := by omega
                  have hS6 := hS.congr (g := stp rs f) (fun t _ => rfl)
                  have hok := Lib.hid (allIn_ok (stp_nonneg hsm hF))
                  clear hS
                  go_wp2_with fail
                  refine (areWithin_any _ _ _ _ _ hS6).mono ?_
                  rintro e w7 ⟨rfl, k7⟩
                  rw [hok.out]
                  have hS7 := hS6.below k7
                  have hT7 := hT.below k7
                  have K7 := Below.step hbel k7
                  clear hS6 hT hbel hV k7
                  cases ho : okS (stp rs f)
                  · have hno : Hid (itO rs s n = false) := Lib.hid (hbad.out (by rw [hstep.out]; exact ho))
                    go_wp2_with fail
                    go_ret2
                    exact .inr ⟨hno.out, rfl, K7⟩
                  · have hyes : Hid (itO rs s (k + 1) = true) := Lib.hid (by rw [hitO.out, HO.out, hstep.out, ho]; rfl)
                    have hS8 := hS7.congr (g := itF rs s (k + 1)) (fun t _ => by rw [hstep.out])
                    go_wp2_with fail
                    go_roundw
                    case rel => exact ⟨k + 1, wp.heap.size, by omega, by go_num, rfl, hzo, hS8, hyes, hT7, K7⟩
                    case measure => simp [intOf]; omega
            · obtain rfl : k = n := by omega
              go_wp2_with fail
              go_ret2
              exact .inl ⟨HO.out, g, rfl, hg, hV, hbel⟩
end Go.Proofs.Ytfblpibioegmkaa
