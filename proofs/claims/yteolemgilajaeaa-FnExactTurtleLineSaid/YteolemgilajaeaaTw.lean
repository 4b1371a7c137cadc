/- TurtleTwigs, the reference's side: the walk. -/
import Derived.Test.YteolemgilajaeaaTs
import Derived.Test.YteolemgilajaeaaTj
import Derived.Deep.RegionWith
import Derived.BigRegion
namespace Go.Proofs.Yteolemgilajaeaa
open Go.RowKit Ieee

theorem info.f32' : (Try.prog.info? 22).map (fun i => (i.zero, i.size, i.bytes)) = some (some (.float .f32 0), 1, 4) := by kernel_rfl
theorem turned_at (b : Int) (now turn x : Nat) (h : (if b = 43 then fop .add .f32 (cn .f32 now) (cn .f32 turn) else if b = 45 then fop .sub .f32 (cn .f32 now) (cn .f32 turn) else cn .f32 now) = x) (w : World) : Calls Try.prog 20 #[.int .u8 b, .float .f32 now, .float .f32 turn] w (FlR w x) := by
  rw [← h]
  exact turned_any b now turn w
theorem moves_at (b : Int) (v : Bool) (h : (decide (b = 70) || decide (b = 71)) = v) (w : World) : Calls Try.prog 21 #[.int .u8 b] w fun e w' => e = .returned (.bool v) ∧ w' = w := by
  rw [← h]
  exact moves_any b w
theorem out_long {turn step k : Nat} {s : ByteArray} {T : TS} (h : tRun turn step (s.data.toList.take (k + 1)) (some t0) = some T) (hl : 256 < T.to.length) : tOut turn step 256 s.data.toList = none := by
  have e : tRun turn step s.data.toList (some t0) = tRun turn step (s.data.toList.drop (k + 1)) (some T) := by
    rw [← h, ← tRun_app, List.take_append_drop]
  unfold tOut
  rw [e]
  cases hr : tRun turn step (s.data.toList.drop (k + 1)) (some T) with
  | none => rfl
  | some V =>
    have := (tRun_mono _ _ _ _ _ hr).1
    exact if_neg (fun h => by omega)
theorem SRel.lens {S : TS} {pa pb t : Nat} {P Q L : List (Nat × Nat)} {U : List Nat} (R : SRel S pa pb t P Q L U) : P.length = S.fr.length ∧ Q.length = S.to.length ∧ L.length = S.st.length ∧ U.length = S.st.length := by
  have h1 := congrArg List.length R.sp
  have h2 := congrArg List.length R.su
  rw [List.length_map, cp_len] at h1
  rw [List.length_map, List.length_map] at h2
  exact ⟨by rw [R.sfr, cp_len], by rw [R.sto, cp_len], h1.symm, h2.symm⟩
theorem SRel.now {S : TS} {pa pb t r : Nat} {P Q L : List (Nat × Nat)} {U : List Nat} (R : SRel S pa pb t P Q L U) (h : cn .f32 r = cn .f32 t) : SRel S pa pb r P Q L U := ⟨R.sat, by rw [R.snow, h], R.sp, R.su, R.sfr, R.sto⟩
theorem SRel.move {S : TS} {pa pb t a b step : Nat} {P Q L : List (Nat × Nat)} {U : List Nat} (R : SRel S pa pb t P Q L U) (h1 : cn .f32 a = (cadd (cn .f32 pa, cn .f32 pb) (cscale (phV (c64 (cn .f32 t))) step)).1) (h2 : cn .f32 b = (cadd (cn .f32 pa, cn .f32 pb) (cscale (phV (c64 (cn .f32 t))) step)).2) :
    SRel ⟨tAt step S, S.now, S.st, S.fr ++ [S.at_], S.to ++ [tAt step S]⟩ a b t (P ++ [(pa, pb)]) (Q ++ [(a, b)]) L U := by
  have e : tAt step S = (cn .f32 a, cn .f32 b) := by
    unfold tAt
    rw [h1, h2, R.sat, R.snow]
  exact ⟨e, R.snow, R.sp, R.su, by simp only [R.sfr, R.sat]; rw [cp_snoc], by simp only [R.sto, e]; rw [cp_snoc]⟩
theorem SRel.push {S : TS} {pa pb t : Nat} {P Q L : List (Nat × Nat)} {U : List Nat} (R : SRel S pa pb t P Q L U) : SRel ⟨S.at_, S.now, S.st ++ [(S.at_, S.now)], S.fr, S.to⟩ pa pb t P Q (L ++ [(pa, pb)]) (U ++ [t]) :=
  ⟨R.sat, R.snow, by simp only [List.map_append]; rw [R.sp, cp_snoc]; simp [R.sat], by simp only [List.map_append]; rw [R.su]; simp [R.snow], R.sfr, R.sto⟩
theorem SRel.pop {S : TS} {pa pb t : Nat} {P Q L : List (Nat × Nat)} {U : List Nat} {q : Nat × Nat} {u : Nat} (R : SRel S pa pb t P Q (L ++ [q]) (U ++ [u])) :
    S.st.getLast? = some ((cn .f32 q.1, cn .f32 q.2), cn .f32 u) ∧ SRel ⟨(cn .f32 q.1, cn .f32 q.2), cn .f32 u, S.st.dropLast, S.fr, S.to⟩ q.1 q.2 u P Q L U := by
  have h1 := R.sp
  have h2 := R.su
  rw [cp_snoc] at h1
  rw [List.map_append] at h2
  rcases List.eq_nil_or_concat S.st with h | ⟨K, x, h⟩
  · rw [h] at h1; simp at h1
  · rw [List.concat_eq_append] at h
    rw [h, List.map_append] at h1 h2
    obtain ⟨a1, a2⟩ := List.append_inj' h1 rfl
    obtain ⟨b1, b2⟩ := List.append_inj' h2 rfl
    have hx : x = ((cn .f32 q.1, cn .f32 q.2), cn .f32 u) := by
      have e1 : x.1 = (cn .f32 q.1, cn .f32 q.2) := by simpa using a2
      have e2 : x.2 = cn .f32 u := by simpa using b2
      rw [← e1, ← e2]
    refine ⟨by rw [h, hx]; simp, rfl, rfl, ?_, ?_, R.sfr, R.sto⟩
    · rw [h]; simpa using a1
    · rw [h]; simpa using b1
theorem step_pop {turn step : Nat} {c : UInt8} {S : TS} {x : (Nat × Nat) × Nat} (hc : c = 93) (h : S.st.getLast? = some x) : tStep turn step c S = some ⟨x.1, x.2, S.st.dropLast, S.fr, S.to⟩ := by
  subst hc
  unfold tStep
  rw [if_neg (by decide), if_neg (by decide), if_neg (by decide), if_neg (by decide), if_pos rfl, h]
set_option maxRecDepth 100000 in
set_option maxHeartbeats 4000000 in
theorem specTw_yes (s : ByteArray) (turn step : Nat) (w : World) (hs : s.size ≤ maxLen) (hw : wordB 4000 s.data.toList = true) (h1 : finB (cn .f32 turn) = true) (h2 : finB (cn .f32 step) = true) :
    Calls Try.prog 6 #[.string s, .float .f32 turn, .float .f32 step] w (CTwo w (tL1 (tOut (cn .f32 turn) (cn .f32 step) 256 s.data.toList)) (tL2 (tOut (cn .f32 turn) (cn .f32 step) 256 s.data.toList)) (tOut (cn .f32 turn) (cn .f32 step) 256 s.data.toList).isSome) := by
  obtain ⟨i0, hi0, hz0, hz1, hz2⟩ := info_parts' info.f32'
  obtain ⟨j0, hj0, jz0, jz1, jz2⟩ := info_parts' info.c64
  have hs4 : s.size ≤ 4000 := by
    unfold wordB at hw
    rw [Bool.and_eq_true] at hw
    have := of_decide_eq_true hw.1
    have e : s.data.toList.length = s.size := by simp
    omega
  go_enter Try.func6, Try.ntmps6
  go_wp2_with fail
  refine (specIsWord_any _ _ hs).mono ?_
  rintro e w' ⟨rfl, rfl⟩
  rw [hw]
  go_wp2_with fail
  refine (l01Finite_any _ _).mono ?_
  rintro e w' ⟨rfl, n1, rfl⟩
  rw [h1]
  go_wp2_with fail
  refine (l01Finite_any _ _).mono ?_
  rintro e w' ⟨rfl, n2, hw1⟩
  obtain ⟨w1, e1⟩ : ∃ w1, w1 = w' := ⟨_, rfl⟩
  rw [← e1] at hw1 ⊢
  have hbw : Below w.heap.size w w1 := by rw [hw1]; exact ⟨rfl, rfl, rfl, Nat.le_refl _, fun _ _ => rfl⟩
  clear hw1 e1 w'
  rw [h2]
  clear h1 h2 hw
  go_wp2_with fail
  have M0 := smem_start (w1 := w1)
  obtain ⟨w2, hw2⟩ : ∃ w2, w2 = ((((w1.alloc (.cells #[] 39)).alloc (.cells #[] 39)).alloc (.cells #[] 39)).alloc (.cells #[] 22)) := ⟨_, rfl⟩
  rw [← hw2] at M0 ⊢
  clear hw2
  go_loopw [9, 10, 11, 12, 13, 14, 15] (fun vf vt vp vu av nv i wr => ∃ (k : Nat) (S : TS) (pa pb t : Nat) (P Q L : List (Nat × Nat)) (U : List Nat), k ≤ s.size ∧ i = .int .i64 k ∧ av = .complex .f32 pa pb ∧ nv = .float .f32 t ∧ Hid (tRun (cn .f32 turn) (cn .f32 step) (s.data.toList.take k) (some t0) = some S) ∧ SRel S pa pb t P Q L U ∧ Q.length ≤ 256 ∧ SMem w1 vf vt vp vu P Q L U wr) (fun _ _ _ _ _ _ i _ => s.size - (intOf i).toNat)
  case atStart => exact ⟨0, t0, 0, 0, 0, [], [], [], [], Nat.zero_le _, rfl, rfl, rfl, Lib.hid rfl, ⟨by decide +kernel, by decide +kernel, rfl, rfl, rfl, rfl⟩, by decide, M0⟩
  case round =>
    obtain ⟨k, S, pa, pb, t, P, Q, L, U, hk, rfl, rfl, rfl, HR, R, h256, M⟩ := hrel
    obtain ⟨F, cF, rfl⟩ := own_slice M.of
    obtain ⟨E, cE, rfl⟩ := own_slice M.ot
    obtain ⟨A, cA, rfl⟩ := own_slice M.op
    obtain ⟨B, cB, rfl⟩ := own_slice M.ou
    obtain ⟨q1, q2, q3⟩ := run_bounds HR.out
    obtain ⟨q4, q5, q6, q7⟩ := R.lens
    have hPl : P.length ≤ k := by omega
    have hQl : Q.length ≤ k := by omega
    have hLl : L.length ≤ k := by omega
    have hUl : U.length ≤ k := by omega
    by_cases hlt : k < s.size
    · have hsk : Hid (s.data.toList.take (k + 1) = s.data.toList.take k ++ [s[k]]) := Lib.hid (take_snoc s k hlt)
      clear q1 q2 q3 q4 q5 q6 q7
      by_cases h70 : (s[k].toNat : Int) = 70
      · have hc : s[k] = 70 := UInt8.toNat_inj.1 (by show _ = 70; omega)
        have hst : Hid (tStep (cn .f32 turn) (cn .f32 step) s[k] S = some ⟨tAt (cn .f32 step) S, S.now, S.st, S.fr ++ [S.at_], S.to ++ [tAt (cn .f32 step) S]⟩) := Lib.hid (by unfold tStep; rw [if_pos (.inl hc)])
        clear hc
        go_wp2_with fail
        refine (turned_at _ _ _ (cn .f32 t) (by rw [if_neg (by omega), if_neg (by omega)]) _).mono ?_
        rintro e w3 ⟨r, n3, rfl, hr, hw3⟩
        have M3 : SMem w1 (.slice F P.length cF) (.slice E Q.length cE) (.slice A L.length cA) (.slice B U.length cB) P Q L U w3 := by rw [hw3]; exact M.drewN n3
        clear hw3 M
        have R3 := R.now hr
        clear R hr
        go_wp2_with fail
        refine (moves_at _ true (by first | rfl | (simp; omega)) _).mono ?_
        rintro e w4 ⟨rfl, rfl⟩
        have hz3 := M3.bel.size
        have IO := M3.of
        go_wp2_with (at_builtin; refine wpList_pushK rfl _ _ 23 rfl w1.heap.size 39 j0 (.complex .f32 0 0) 8 Try.underlying23 hj0 jz0 jz1 jz2 rfl _ P.length (P.map cv) rfl IO _ rfl rfl (by unfold maxLen; omega) (by omega) (by omega) ?_)
        intro v5 w5 ho kk hn
        have M5 := M3.pushF ho kk hn
        clear M3 IO ho kk hn hz3
        go_wp2_with fail
        refine (forward_any _ _ _ _ _).mono ?_
        rintro e w6 ⟨a1, b1, n6, rfl, x1, y1, hw6⟩
        have M6 : SMem w1 v5 (.slice E Q.length cE) (.slice A L.length cA) (.slice B U.length cB) (P ++ [(pa, pb)]) Q L U w6 := by rw [hw6]; exact M5.drewN n6
        have R6 := R3.move x1 y1
        clear hw6 M5 R3 x1 y1
        have hz6 := M6.bel.size
        have IO := M6.ot
        go_wp2_with (at_builtin; refine wpList_pushK rfl _ _ 23 rfl w1.heap.size 39 j0 (.complex .f32 0 0) 8 Try.underlying23 hj0 jz0 jz1 jz2 rfl _ Q.length (Q.map cv) rfl IO _ rfl rfl (by unfold maxLen; omega) (by omega) (by omega) ?_)
        intro v7 w7 ho kk hn
        have M7 := M6.pushT ho kk hn
        clear M6 IO ho kk hn hz6
        obtain ⟨A7, c7, rfl⟩ := own_slice M7.ot
        obtain ⟨A5, c5, rfl⟩ := own_slice M7.of
        have hql : (Q ++ [(a1, b1)]).length = Q.length + 1 := by simp
        have hpl : (P ++ [(pa, pb)]).length = P.length + 1 := by simp
        by_cases h256 : 256 < Q.length + 1
        · have hno := Lib.hid (out_long (run_step hsk.out HR.out hst.out) (by have := R6.lens.2.1; omega))
          have hbel := Below.step hbw M7.bel
          clear R6
          go_wp2
          exact bodyPost_ret (v := .tuple #[.slice none 0 0, .slice none 0 0, .bool false]) (by simp [results, Try.results6, go_sem]) rfl (CTwo.no hno.out hbel)
        · have hq2 : (Q ++ [(a1, b1)]).length ≤ 256 := by omega
          have HM := Lib.hid M7
          go_wp2
          go_roundw
          case rel => exact ⟨k + 1, _, _, _, _, _, _, _, _, by omega, by go_num, rfl, rfl, Lib.hid (run_step hsk.out HR.out hst.out), R6, hq2, HM.out⟩
          case measure => simp [intOf]; omega
      · skip
        by_cases h71 : (s[k].toNat : Int) = 71
        · have hc : s[k] = 71 := UInt8.toNat_inj.1 (by show _ = 71; omega)
          have hst : Hid (tStep (cn .f32 turn) (cn .f32 step) s[k] S = some ⟨tAt (cn .f32 step) S, S.now, S.st, S.fr ++ [S.at_], S.to ++ [tAt (cn .f32 step) S]⟩) := Lib.hid (by unfold tStep; rw [if_pos (.inr hc)])
          clear hc
          go_wp2_with fail
          refine (turned_at _ _ _ (cn .f32 t) (by rw [if_neg (by omega), if_neg (by omega)]) _).mono ?_
          rintro e w3 ⟨r, n3, rfl, hr, hw3⟩
          have M3 : SMem w1 (.slice F P.length cF) (.slice E Q.length cE) (.slice A L.length cA) (.slice B U.length cB) P Q L U w3 := by rw [hw3]; exact M.drewN n3
          clear hw3 M
          have R3 := R.now hr
          clear R hr
          go_wp2_with fail
          refine (moves_at _ true (by first | rfl | (simp; omega)) _).mono ?_
          rintro e w4 ⟨rfl, rfl⟩
          have hz3 := M3.bel.size
          have IO := M3.of
          go_wp2_with (at_builtin; refine wpList_pushK rfl _ _ 23 rfl w1.heap.size 39 j0 (.complex .f32 0 0) 8 Try.underlying23 hj0 jz0 jz1 jz2 rfl _ P.length (P.map cv) rfl IO _ rfl rfl (by unfold maxLen; omega) (by omega) (by omega) ?_)
          intro v5 w5 ho kk hn
          have M5 := M3.pushF ho kk hn
          clear M3 IO ho kk hn hz3
          go_wp2_with fail
          refine (forward_any _ _ _ _ _).mono ?_
          rintro e w6 ⟨a1, b1, n6, rfl, x1, y1, hw6⟩
          have M6 : SMem w1 v5 (.slice E Q.length cE) (.slice A L.length cA) (.slice B U.length cB) (P ++ [(pa, pb)]) Q L U w6 := by rw [hw6]; exact M5.drewN n6
          have R6 := R3.move x1 y1
          clear hw6 M5 R3 x1 y1
          have hz6 := M6.bel.size
          have IO := M6.ot
          go_wp2_with (at_builtin; refine wpList_pushK rfl _ _ 23 rfl w1.heap.size 39 j0 (.complex .f32 0 0) 8 Try.underlying23 hj0 jz0 jz1 jz2 rfl _ Q.length (Q.map cv) rfl IO _ rfl rfl (by unfold maxLen; omega) (by omega) (by omega) ?_)
          intro v7 w7 ho kk hn
          have M7 := M6.pushT ho kk hn
          clear M6 IO ho kk hn hz6
          obtain ⟨A7, c7, rfl⟩ := own_slice M7.ot
          obtain ⟨A5, c5, rfl⟩ := own_slice M7.of
          have hql : (Q ++ [(a1, b1)]).length = Q.length + 1 := by simp
          have hpl : (P ++ [(pa, pb)]).length = P.length + 1 := by simp
          by_cases h256 : 256 < Q.length + 1
          · have hno := Lib.hid (out_long (run_step hsk.out HR.out hst.out) (by have := R6.lens.2.1; omega))
            have hbel := Below.step hbw M7.bel
            clear R6
            go_wp2
            exact bodyPost_ret (v := .tuple #[.slice none 0 0, .slice none 0 0, .bool false]) (by simp [results, Try.results6, go_sem]) rfl (CTwo.no hno.out hbel)
          · have hq2 : (Q ++ [(a1, b1)]).length ≤ 256 := by omega
            have HM := Lib.hid M7
            go_wp2
            go_roundw
            case rel => exact ⟨k + 1, _, _, _, _, _, _, _, _, by omega, by go_num, rfl, rfl, Lib.hid (run_step hsk.out HR.out hst.out), R6, hq2, HM.out⟩
            case measure => simp [intOf]; omega
        · skip
          by_cases h43 : (s[k].toNat : Int) = 43
          · have hc : s[k] = 43 := UInt8.toNat_inj.1 (by show _ = 43; omega)
            have hst : Hid (tStep (cn .f32 turn) (cn .f32 step) s[k] S = some ⟨S.at_, fop .add .f32 S.now (cn .f32 turn), S.st, S.fr, S.to⟩) := Lib.hid (by rw [hc]; rfl)
            clear hc
            go_wp2_with fail
            refine (turned_at _ _ _ (fop .add .f32 (cn .f32 t) (cn .f32 turn)) (by rw [if_pos (by omega)]) _).mono ?_
            rintro e w3 ⟨r, n3, rfl, hr, hw3⟩
            have M3 : SMem w1 (.slice F P.length cF) (.slice E Q.length cE) (.slice A L.length cA) (.slice B U.length cB) P Q L U w3 := by rw [hw3]; exact M.drewN n3
            clear hw3 M
            have R3 : SRel ⟨S.at_, fop .add .f32 S.now (cn .f32 turn), S.st, S.fr, S.to⟩ pa pb r P Q L U := ⟨R.sat, by rw [hr]; simp only [R.snow], R.sp, R.su, R.sfr, R.sto⟩
            clear R hr
            go_wp2_with fail
            refine (moves_at _ false (by first | rfl | (simp; omega)) _).mono ?_
            rintro e w4 ⟨rfl, rfl⟩
            go_wp2
            go_roundw
            case rel => exact ⟨k + 1, _, _, _, _, _, _, _, _, by omega, by go_num, rfl, rfl, Lib.hid (run_step hsk.out HR.out hst.out), R3, h256, M3⟩
            case measure => simp [intOf]; omega
          · skip
            by_cases h45 : (s[k].toNat : Int) = 45
            · have hc : s[k] = 45 := UInt8.toNat_inj.1 (by show _ = 45; omega)
              have hst : Hid (tStep (cn .f32 turn) (cn .f32 step) s[k] S = some ⟨S.at_, fop .sub .f32 S.now (cn .f32 turn), S.st, S.fr, S.to⟩) := Lib.hid (by rw [hc]; rfl)
              clear hc
              go_wp2_with fail
              refine (turned_at _ _ _ (fop .sub .f32 (cn .f32 t) (cn .f32 turn)) (by rw [if_neg (by omega), if_pos (by omega)]) _).mono ?_
              rintro e w3 ⟨r, n3, rfl, hr, hw3⟩
              have M3 : SMem w1 (.slice F P.length cF) (.slice E Q.length cE) (.slice A L.length cA) (.slice B U.length cB) P Q L U w3 := by rw [hw3]; exact M.drewN n3
              clear hw3 M
              have R3 : SRel ⟨S.at_, fop .sub .f32 S.now (cn .f32 turn), S.st, S.fr, S.to⟩ pa pb r P Q L U := ⟨R.sat, by rw [hr]; simp only [R.snow], R.sp, R.su, R.sfr, R.sto⟩
              clear R hr
              go_wp2_with fail
              refine (moves_at _ false (by first | rfl | (simp; omega)) _).mono ?_
              rintro e w4 ⟨rfl, rfl⟩
              go_wp2
              go_roundw
              case rel => exact ⟨k + 1, _, _, _, _, _, _, _, _, by omega, by go_num, rfl, rfl, Lib.hid (run_step hsk.out HR.out hst.out), R3, h256, M3⟩
              case measure => simp [intOf]; omega
            · skip
              by_cases h91 : (s[k].toNat : Int) = 91
              · have hc : s[k] = 91 := UInt8.toNat_inj.1 (by show _ = 91; omega)
                have hst : Hid (tStep (cn .f32 turn) (cn .f32 step) s[k] S = some ⟨S.at_, S.now, S.st ++ [(S.at_, S.now)], S.fr, S.to⟩) := Lib.hid (by rw [hc]; rfl)
                clear hc
                go_wp2_with fail
                refine (turned_at _ _ _ (cn .f32 t) (by rw [if_neg (by omega), if_neg (by omega)]) _).mono ?_
                rintro e w3 ⟨r, n3, rfl, hr, hw3⟩
                have M3 : SMem w1 (.slice F P.length cF) (.slice E Q.length cE) (.slice A L.length cA) (.slice B U.length cB) P Q L U w3 := by rw [hw3]; exact M.drewN n3
                clear hw3 M
                have R3 := R.now hr
                clear R hr
                have hz3 := M3.bel.size
                have IO := M3.op
                go_wp2_with (at_builtin; refine wpList_pushK rfl _ _ 23 rfl w1.heap.size 39 j0 (.complex .f32 0 0) 8 Try.underlying23 hj0 jz0 jz1 jz2 rfl _ L.length (L.map cv) rfl IO _ rfl rfl (by unfold maxLen; omega) (by omega) (by omega) ?_)
                intro v5 w5 ho kk hn
                have M5 := M3.pushP ho kk hn
                clear M3 IO ho kk hn hz3
                have hz5 := M5.bel.size
                have IO := M5.ou
                go_wp2_with (at_builtin; refine wpList_pushK rfl _ _ 31 rfl w1.heap.size 22 i0 (.float .f32 0) 4 Try.underlying31 hi0 hz0 hz1 hz2 rfl _ U.length (U.map fv) rfl IO _ rfl rfl (by unfold maxLen; omega) (by omega) (by omega) ?_)
                intro v7 w7 ho kk hn
                have M7 := M5.pushU (a := r) ho kk hn
                clear M5 IO ho kk hn hz5
                go_wp2_with fail
                refine (moves_at _ false (by first | rfl | (simp; omega)) _).mono ?_
                rintro e w4 ⟨rfl, rfl⟩
                go_wp2
                go_roundw
                case rel => exact ⟨k + 1, _, _, _, _, _, _, _, _, by omega, by go_num, rfl, rfl, Lib.hid (run_step hsk.out HR.out hst.out), R3.push, h256, M7⟩
                case measure => simp [intOf]; omega
              · skip
                by_cases h93 : (s[k].toNat : Int) = 93
                · have hc : s[k] = 93 := UInt8.toNat_inj.1 (by show _ = 93; omega)
                  have HC := Lib.hid hc
                  clear hc
                  go_wp2_with fail
                  refine (turned_at _ _ _ (cn .f32 t) (by rw [if_neg (by omega), if_neg (by omega)]) _).mono ?_
                  rintro e w3 ⟨r, n3, rfl, hr, hw3⟩
                  have M3 : SMem w1 (.slice F P.length cF) (.slice E Q.length cE) (.slice A L.length cA) (.slice B U.length cB) P Q L U w3 := by rw [hw3]; exact M.drewN n3
                  clear hw3 M
                  have R3 := R.now hr
                  clear R hr
                  have hlu : L.length = U.length := by have := R3.lens; omega
                  rcases List.eq_nil_or_concat L with hL | ⟨L', q, hL⟩
                  · have hL0 : L.length = 0 := by rw [hL]; rfl
                    have hno := Lib.hid (out_none (most := 256) hsk.out HR.out (st_none HC.out (List.length_eq_zero_iff.1 (by have := R3.lens; omega))))
                    have hbel := Below.step hbw M3.bel
                    clear hlu hL
                    go_wp2
                    exact bodyPost_ret (v := .tuple #[.slice none 0 0, .slice none 0 0, .bool false]) (by simp [results, Try.results6, go_sem]) rfl (CTwo.no hno.out hbel)
                  · rw [List.concat_eq_append] at hL
                    rcases List.eq_nil_or_concat U with hU | ⟨U', u, hU⟩
                    · exfalso
                      rw [hL, hU] at hlu
                      simp at hlu
                    · rw [List.concat_eq_append] at hU
                      subst hL; subst hU
                      obtain ⟨hlast, R4⟩ := R3.pop
                      have hst := Lib.hid (step_pop (turn := cn .f32 turn) (step := cn .f32 step) HC.out hlast)
                      have e1 : (L' ++ [q]).length = L'.length + 1 := by simp
                      have e2 : (U' ++ [u]).length = U'.length + 1 := by simp
                      rw [e1, e2] at M3 ⊢
                      obtain ⟨g, rfl, hcA, t0'⟩ := M3.topP
                      obtain ⟨g', rfl, hcB, t1'⟩ := M3.topU
                      have M5 := M3.popP.popU
                      have HM := Lib.hid M5
                      have hll : L'.length = U'.length := by rw [e1, e2] at hlu; omega
                      have HLL := Lib.hid hll
                      have hU4 : U'.length ≤ 4000 := by omega
                      clear hlu R3 hlast M3 M5 e1 e2
                      unfold cv at t0'
                      rw [hll] at t0'
                      unfold fv at t1'
                      go_wp2_with fail
                      refine (moves_at _ false (by first | rfl | (simp; omega)) _).mono ?_
                      rintro e w4 ⟨rfl, rfl⟩
                      go_wp2
                      go_roundw
                      case rel => exact ⟨k + 1, _, _, _, _, _, _, _, _, by omega, by go_num, rfl, rfl, Lib.hid (run_step hsk.out HR.out hst.out), R4, h256, by have hm := HM.out; rw [HLL.out] at hm; exact hm⟩
                      case measure => simp [intOf]; omega
                · skip
                  have hst : Hid (tStep (cn .f32 turn) (cn .f32 step) s[k] S = some S) := Lib.hid (by
                    have n1 : ¬ s[k] = 70 := fun e => h70 (by rw [e]; rfl)
                    have n2 : ¬ s[k] = 71 := fun e => h71 (by rw [e]; rfl)
                    have n3 : ¬ s[k] = 43 := fun e => h43 (by rw [e]; rfl)
                    have n4 : ¬ s[k] = 45 := fun e => h45 (by rw [e]; rfl)
                    have n5 : ¬ s[k] = 91 := fun e => h91 (by rw [e]; rfl)
                    have n6 : ¬ s[k] = 93 := fun e => h93 (by rw [e]; rfl)
                    unfold tStep
                    simp [n1, n2, n3, n4, n5, n6])
                  go_wp2_with fail
                  refine (turned_at _ _ _ (cn .f32 t) (by rw [if_neg (by omega), if_neg (by omega)]) _).mono ?_
                  rintro e w3 ⟨r, n3, rfl, hr, hw3⟩
                  have M3 : SMem w1 (.slice F P.length cF) (.slice E Q.length cE) (.slice A L.length cA) (.slice B U.length cB) P Q L U w3 := by rw [hw3]; exact M.drewN n3
                  clear hw3 M
                  have R3 := R.now hr
                  clear R hr
                  go_wp2_with fail
                  refine (moves_at _ false (by first | rfl | (simp; omega)) _).mono ?_
                  rintro e w4 ⟨rfl, rfl⟩
                  go_wp2
                  go_roundw
                  case rel => exact ⟨k + 1, _, _, _, _, _, _, _, _, by omega, by go_num, rfl, rfl, Lib.hid (run_step hsk.out HR.out hst.out), R3, h256, M3⟩
                  case measure => simp [intOf]; omega
    · obtain rfl : k = s.size := by omega
      have hbel := Below.step hbw M.bel
      have hzz := hbw.size
      have oB := (OwnS.of_own M.of).less (show w.heap.size ≤ w1.heap.size by omega)
      have oE := (OwnS.of_own M.ot).less (show w.heap.size ≤ w1.heap.size by omega)
      have hap : ∀ b, InA F b → ¬ InA E b := fun b ⟨o, h⟩ ⟨o', h'⟩ => M.aft b (by rw [h]; rfl) (by rw [h']; rfl)
      have e1 : finQ S.fr = finCL P := by rw [R.sfr, finQ_cp]
      have e2 : finQ S.to = finCL Q := by rw [R.sto, finQ_cp]
      have HP : Hid (cp P = S.fr) := Lib.hid R.sfr.symm
      have HQ : Hid (cp Q = S.to) := Lib.hid R.sto.symm
      have hP256 : P.length ≤ 256 := by omega
      have dP : (decide (P.length ≤ 256) && finCL P) = finCL P := by simp [hP256]
      have dQ : (decide (Q.length ≤ 256) && finCL Q) = finCL Q := by simp [h256]
      by_cases hK : 0 < L.length
      · have hno := Lib.hid (out_bad (most := 256) HR.out (fun h => by omega))
        clear q1 q2 q3 q4 q5 q6 q7 e1 e2 M R dP dQ
        go_wp2
        exact bodyPost_ret (v := .tuple #[.slice none 0 0, .slice none 0 0, .bool false]) (by simp [results, Try.results6, go_sem]) rfl (CTwo.no hno.out hbel)
      · have hK0 : L.length = 0 := by omega
        cases hf1 : finCL P
        · have hno := Lib.hid (out_bad (most := 256) HR.out (fun h => by rw [e1, hf1] at h; exact absurd h.2.2.1 (by decide)))
          clear q1 q2 q3 q4 q5 q6 q7 e1 e2 M R
          go_wp2_with fail
          refine (l02Points_any _ _ P _ oB.1 (by unfold maxLen; omega)).mono ?_
          rintro e w' ⟨rfl, n3, rfl⟩
          rw [dP, hf1]
          clear dP dQ
          go_wp2
          exact bodyPost_ret (v := .tuple #[.slice none 0 0, .slice none 0 0, .bool false]) (by simp [results, Try.results6, go_sem]) rfl (CTwo.no hno.out (below_drawN hbel _))
        · cases hf2 : finCL Q
          · have hno := Lib.hid (out_bad (most := 256) HR.out (fun h => by rw [e2, hf2] at h; exact absurd h.2.2.2 (by decide)))
            clear q1 q2 q3 q4 q5 q6 q7 e1 e2 M R
            go_wp2_with fail
            refine (l02Points_any _ _ P _ oB.1 (by unfold maxLen; omega)).mono ?_
            rintro e w' ⟨rfl, n3, rfl⟩
            rw [dP, hf1]
            clear dP
            go_wp2_with fail
            refine (l02Points_any _ _ Q _ (Rd.drewN oE.1 n3) (by unfold maxLen; omega)).mono ?_
            rintro e w' ⟨rfl, n4, rfl⟩
            rw [dQ, hf2]
            clear dQ
            go_wp2
            exact bodyPost_ret (v := .tuple #[.slice none 0 0, .slice none 0 0, .bool false]) (by simp [results, Try.results6, go_sem]) rfl (CTwo.no hno.out (below_drawN hbel _))
          · have hyes := Lib.hid (out_good (most := 256) HR.out ⟨by omega, by omega, by rw [e1]; exact hf1, by rw [e2]; exact hf2⟩)
            clear q1 q2 q3 q4 q5 q6 q7 e1 e2 M R
            go_wp2_with fail
            refine (l02Points_any _ _ P _ oB.1 (by unfold maxLen; omega)).mono ?_
            rintro e w' ⟨rfl, n3, rfl⟩
            rw [dP, hf1]
            clear dP
            go_wp2_with fail
            refine (l02Points_any _ _ Q _ (Rd.drewN oE.1 n3) (by unfold maxLen; omega)).mono ?_
            rintro e w' ⟨rfl, n4, rfl⟩
            rw [dQ, hf2]
            clear dQ
            go_wp2
            exact bodyPost_ret (v := .tuple #[.slice F P.length cF, .slice E Q.length cE, .bool true]) (by simp [results, Try.results6, go_sem]) rfl (CTwo.yes hyes.out oB oE hap HP.out HQ.out (below_drawN hbel _))
set_option maxRecDepth 100000 in
set_option maxHeartbeats 1000000 in
theorem specTw_any (s : ByteArray) (turn step : Nat) (w : World) (hs : s.size ≤ maxLen) :
    Calls Try.prog 6 #[.string s, .float .f32 turn, .float .f32 step] w (CTwo w (tL1 (tAll s turn step 256)) (tL2 (tAll s turn step 256)) (tAll s turn step 256).isSome) := by
  cases hw : wordB 4000 s.data.toList
  · have hno := Lib.hid (tAll_no (turn := turn) (step := step) (most := 256) (fun h => by rw [hw] at h; exact absurd h.1 (by decide)))
    go_enter Try.func6, Try.ntmps6
    go_wp2_with fail
    refine (specIsWord_any _ _ hs).mono ?_
    rintro e w' ⟨rfl, rfl⟩
    rw [hw]
    go_wp2
    exact bodyPost_ret (v := .tuple #[.slice none 0 0, .slice none 0 0, .bool false]) (by simp [results, Try.results6, go_sem]) rfl (CTwo.no hno.out (Below.refl _ _))
  · cases h1 : finB (cn .f32 turn)
    · have hno := Lib.hid (tAll_no (s := s) (turn := turn) (step := step) (most := 256) (fun h => by rw [h1] at h; exact absurd h.2.1 (by decide)))
      go_enter Try.func6, Try.ntmps6
      go_wp2_with fail
      refine (specIsWord_any _ _ hs).mono ?_
      rintro e w' ⟨rfl, rfl⟩
      rw [hw]
      go_wp2_with fail
      refine (l01Finite_any _ _).mono ?_
      rintro e w' ⟨rfl, n1, rfl⟩
      rw [h1]
      go_wp2
      exact bodyPost_ret (v := .tuple #[.slice none 0 0, .slice none 0 0, .bool false]) (by simp [results, Try.results6, go_sem]) rfl (CTwo.no hno.out (below_drawN (Below.refl _ _) _))
    · cases h2 : finB (cn .f32 step)
      · have hno := Lib.hid (tAll_no (s := s) (turn := turn) (step := step) (most := 256) (fun h => by rw [h2] at h; exact absurd h.2.2 (by decide)))
        go_enter Try.func6, Try.ntmps6
        go_wp2_with fail
        refine (specIsWord_any _ _ hs).mono ?_
        rintro e w' ⟨rfl, rfl⟩
        rw [hw]
        go_wp2_with fail
        refine (l01Finite_any _ _).mono ?_
        rintro e w' ⟨rfl, n1, rfl⟩
        rw [h1]
        go_wp2_with fail
        refine (l01Finite_any _ _).mono ?_
        rintro e w' ⟨rfl, n2, rfl⟩
        rw [h2]
        go_wp2
        exact bodyPost_ret (v := .tuple #[.slice none 0 0, .slice none 0 0, .bool false]) (by simp [results, Try.results6, go_sem]) rfl (CTwo.no hno.out (below_drawN (Below.refl _ _) _))
      · rw [tAll_yes hw h1 h2]
        exact specTw_yes s turn step w hs hw h1 h2
end Go.Proofs.Yteolemgilajaeaa
