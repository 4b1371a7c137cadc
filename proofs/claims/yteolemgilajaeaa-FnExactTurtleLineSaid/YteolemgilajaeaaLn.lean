/- TurtleLine, both sides. -/
import Derived.Test.YteolemgilajaeaaTw
import Derived.Test.YteolemgilajaeaaC64M
import Derived.BigRegion
namespace Go.Proofs.Yteolemgilajaeaa
open Go.RowKit Ieee

def noBr (l : List UInt8) : Bool := l.all fun c => !(c == 91 || c == 93)
def tLn (s : ByteArray) (turn step : Nat) : Option (List (Nat × Nat)) := if noBr s.data.toList then (tAll s turn step 255).map (fun x => (0, 0) :: x.2) else none
def lnL (o : Option (List (Nat × Nat))) : List (Nat × Nat) := o.getD []
/-- Without brackets: nothing is kept, and each place where a move begins is 0 or the end of a move. -/
structure Flat1 (S : TS) : Prop where
  st : S.st = []
  fr : ∀ p ∈ S.fr, p = (0, 0) ∨ p ∈ S.to
  at0 : S.at_ = (0, 0) ∨ S.at_ ∈ S.to
theorem Flat1.start : Flat1 t0 := ⟨rfl, (fun p h => by cases h), .inl rfl⟩
theorem Flat1.step {turn step : Nat} {c : UInt8} {S T : TS} (h : Flat1 S) (h1 : ¬ c = 91) (h2 : ¬ c = 93) (ht : tStep turn step c S = some T) : Flat1 T := by
  unfold tStep at ht
  split at ht
  · injection ht with ht
    subst ht
    refine ⟨h.st, fun p hp => ?_, .inr (by simp)⟩
    rcases List.mem_append.1 hp with hp | hp
    · rcases h.fr p hp with h' | h'
      · exact .inl h'
      · exact .inr (List.mem_append_left _ h')
    · have : p = S.at_ := by simpa using hp
      rw [this]
      rcases h.at0 with h' | h'
      · exact .inl h'
      · exact .inr (List.mem_append_left _ h')
  split at ht
  · injection ht with ht; subst ht; exact ⟨h.st, h.fr, h.at0⟩
  split at ht
  · injection ht with ht; subst ht; exact ⟨h.st, h.fr, h.at0⟩
  first
    | (injection ht with ht; subst ht; exact h)
    | (split at ht
       · rename_i hh; exact absurd hh h1
       · split at ht
         · rename_i hh; exact absurd hh h2
         · injection ht with ht; subst ht; exact h)
theorem fin_00 : (finB 0 && finB 0) = true := by decide +kernel
theorem Flat1.fin {S : TS} (h : Flat1 S) (hf : finQ S.to = true) : finQ S.fr = true := by
  unfold finQ at *
  rw [List.all_eq_true] at hf ⊢
  intro p hp
  rcases h.fr p hp with h' | h'
  · rw [h']; exact fin_00
  · exact hf p h'
theorem finQ_cons (l : List (Nat × Nat)) : finQ ((0, 0) :: l) = finQ l := by
  unfold finQ
  rw [List.all_cons, fin_00, Bool.true_and]
theorem noBr_bad {s : ByteArray} {k : Nat} (h : k < s.size) (hc : s[k] = 91 ∨ s[k] = 93) : noBr s.data.toList = false := by
  unfold noBr
  rw [List.all_eq_false]
  refine ⟨s[k], ?_, by rcases hc with hc | hc <;> rw [hc] <;> decide⟩
  have e := take_snoc s k h
  have : s[k] ∈ s.data.toList.take (k + 1) := by rw [e]; simp
  exact List.mem_of_mem_take this
theorem noBr_end {s : ByteArray} (h : noBr (s.data.toList.take s.size) = true) : noBr s.data.toList = true := by
  have e : s.data.toList.take s.size = s.data.toList := List.take_of_length_le (by simp)
  rw [e] at h
  exact h
theorem noBr_go {s : ByteArray} {k : Nat} {c : UInt8} (e : s.data.toList.take (k + 1) = s.data.toList.take k ++ [c]) (h : noBr (s.data.toList.take k) = true) (h1 : ¬ c = 91) (h2 : ¬ c = 93) : noBr (s.data.toList.take (k + 1)) = true := by
  rw [e]
  unfold noBr at *
  rw [List.all_append, h]
  simp [h1, h2]
theorem tLn_br {s : ByteArray} {turn step : Nat} (h : noBr s.data.toList = false) : tLn s turn step = none := by unfold tLn; rw [h]; rfl
theorem tLn_none {s : ByteArray} {turn step : Nat} (h : tAll s turn step 255 = none) : tLn s turn step = none := by
  unfold tLn
  rw [h]
  split <;> rfl
theorem tLn_some {s : ByteArray} {turn step : Nat} {x : List (Nat × Nat) × List (Nat × Nat)} (h0 : noBr s.data.toList = true) (h : tAll s turn step 255 = some x) : tLn s turn step = some ((0, 0) :: x.2) := by
  unfold tLn
  rw [h0, h]
  rfl
/-- One list of complex numbers in new memory, and a yes or no. -/
def COne (w : World) (l : List (Nat × Nat)) (ok : Bool) (e : Ending) (w' : World) : Prop :=
  ∃ A c P, e = .returned (.tuple #[.slice A P.length c, .bool ok]) ∧ OwnS w.heap.size w' A (P.map cv) ∧ cp P = l ∧ Below w.heap.size w w'
theorem COne.no {w w' : World} {o : Option (List (Nat × Nat))} (h : o = none) (k : Below w.heap.size w w') : COne w (lnL o) o.isSome (.returned (.tuple #[.slice none 0 0, .bool false])) w' := by
  subst h
  exact ⟨none, 0, [], rfl, OwnS.nil _, rfl, k⟩
theorem COne.yes {w w' : World} {o : Option (List (Nat × Nat))} {l : List (Nat × Nat)} (h : o = some l) {A : Option Addr} {c : Nat} {P : List (Nat × Nat)} (h1 : OwnS w.heap.size w' A (P.map cv)) (h4 : cp P = l) (k : Below w.heap.size w w') : COne w (lnL o) o.isSome (.returned (.tuple #[.slice A P.length c, .bool true])) w' := by
  subst h
  exact ⟨A, c, P, rfl, h1, h4, k⟩
theorem out_long' {turn step most k : Nat} {s : ByteArray} {T : TS} (h : tRun turn step (s.data.toList.take (k + 1)) (some t0) = some T) (hl : most < T.to.length) : tOut turn step most s.data.toList = none := by
  have e : tRun turn step s.data.toList (some t0) = tRun turn step (s.data.toList.drop (k + 1)) (some T) := by
    rw [← h, ← tRun_app, List.take_append_drop]
  unfold tOut
  rw [e]
  cases hr : tRun turn step (s.data.toList.drop (k + 1)) (some T) with
  | none => rfl
  | some V =>
    have := (tRun_mono _ _ _ _ _ hr).1
    exact if_neg (fun h => by omega)
/-- The turtle's state, the places so far, and what lies in memory. -/
structure LInv (w1 : World) (S : TS) (v : Value) (pa pb t : Nat) (P : List (Nat × Nat)) (wr : World) : Prop where
  sat : S.at_ = (cn .f32 pa, cn .f32 pb)
  snow : S.now = cn .f32 t
  sto : cp P = (0, 0) :: S.to
  own : wr.ownsRow w1.heap.size 39 1 v P.length (P.map cv)
  bel : Below w1.heap.size w1 wr
theorem LInv.drewN {w1 wr : World} {S : TS} {v : Value} {pa pb t : Nat} {P : List (Nat × Nat)} (I : LInv w1 S v pa pb t P wr) (n : Nat) : LInv w1 S v pa pb t P (wr.drewN n) := ⟨I.sat, I.snow, I.sto, I.own, below_drawN I.bel n⟩
theorem LInv.now {w1 wr : World} {S : TS} {v : Value} {pa pb t r : Nat} {P : List (Nat × Nat)} (I : LInv w1 S v pa pb t P wr) (h : cn .f32 r = cn .f32 t) : LInv w1 S v pa pb r P wr := ⟨I.sat, by rw [I.snow, h], I.sto, I.own, I.bel⟩
theorem LInv.len {w1 wr : World} {S : TS} {v : Value} {pa pb t : Nat} {P : List (Nat × Nat)} (I : LInv w1 S v pa pb t P wr) : P.length = S.to.length + 1 := by rw [← cp_len, I.sto]; rfl
theorem LInv.push {w1 wr w' : World} {S : TS} {v v' : Value} {pa pb t a b step : Nat} {P : List (Nat × Nat)} (I : LInv w1 S v pa pb t P wr) (h1 : cn .f32 a = (cadd (cn .f32 pa, cn .f32 pb) (cscale (phV (c64 (cn .f32 t))) step)).1) (h2 : cn .f32 b = (cadd (cn .f32 pa, cn .f32 pb) (cscale (phV (c64 (cn .f32 t))) step)).2)
    (h : w'.ownsRow w1.heap.size 39 1 v' (P.length + 1) (P.map cv ++ [.complex .f32 a b])) (k : Keep (fun g => v.ownBlock = some g) wr w') :
    LInv w1 ⟨tAt step S, S.now, S.st, S.fr ++ [S.at_], S.to ++ [tAt step S]⟩ v' a b t (P ++ [(a, b)]) w' := by
  have e : tAt step S = (cn .f32 a, cn .f32 b) := by
    unfold tAt
    rw [h1, h2, I.sat, I.snow]
  exact ⟨e, I.snow, by rw [cp_snoc, I.sto, e]; rfl, by rw [List.length_append, List.map_append]; exact h, Keep.below I.bel k I.bel.size (fun g hg => (I.own.lt g hg).1)⟩
set_option maxRecDepth 100000 in
set_option maxHeartbeats 4000000 in
theorem specLn_yes (s : ByteArray) (turn step : Nat) (w : World) (hs : s.size ≤ maxLen) (hw : wordB 4000 s.data.toList = true) (h1 : finB (cn .f32 turn) = true) (h2 : finB (cn .f32 step) = true) :
    Calls Try.prog 11 #[.string s, .float .f32 turn, .float .f32 step] w (COne w (lnL (tLn s turn step)) (tLn s turn step).isSome) := by
  obtain ⟨j0, hj0, jz0, jz1, jz2⟩ := info_parts' info.c64
  have hall := tAll_yes (most := 255) hw h1 h2
  have HALL := Lib.hid hall
  clear hall
  have hs4 : s.size ≤ 4000 := by
    unfold wordB at hw
    rw [Bool.and_eq_true] at hw
    have := of_decide_eq_true hw.1
    have e : s.data.toList.length = s.size := by simp
    omega
  go_enter Try.func11, Try.ntmps11
  go_wp2_with fail
  refine (specIsWord_any _ _ hs).mono ?_
  rintro e w' ⟨rfl, rfl⟩
  rw [hw]
  go_wp2_with fail
  refine (l01Finite_any _ _).mono ?_
  rintro e w' ⟨rfl, n1, rfl⟩
  rw [h1]
  go_wp2_with fail
  refine (l01Finite_any _ _).mono ?_
  rintro e w' ⟨rfl, n2, hw1⟩
  obtain ⟨w1, e1⟩ : ∃ w1, w1 = w' := ⟨_, rfl⟩
  rw [← e1] at hw1 ⊢
  have hbw : Below w.heap.size w w1 := by rw [hw1]; exact ⟨rfl, rfl, rfl, Nat.le_refl _, fun _ _ => rfl⟩
  clear hw1 e1 w'
  rw [h2]
  clear h1 h2 hw
  go_wp2_with fail
  have I0 : LInv w1 t0 (.slice (some ⟨w1.heap.size, 0, none⟩) 1 1) 0 0 0 [(0, 0)] (w1.alloc (.cells #[.complex .f32 0 0] 39)) := by
    refine ⟨by decide +kernel, by decide +kernel, by decide +kernel, ?_, below_alloc _ _⟩
    refine ⟨rfl, .inr ⟨w1.heap.size, 1, #[.complex .f32 0 0], rfl, Nat.le_refl _, heap_alloc_new w1 _, Nat.le_refl _, by unfold maxLen; omega, rfl, rfl⟩⟩
  obtain ⟨w2, hw2⟩ : ∃ w2, w2 = w1.alloc (.cells #[.complex .f32 0 0] 39) := ⟨_, rfl⟩
  rw [← hw2] at I0 ⊢
  clear hw2
  go_loopw [8, 9, 10, 11] (fun v av nv i wr => ∃ (k : Nat) (S : TS) (pa pb t : Nat) (P : List (Nat × Nat)), k ≤ s.size ∧ i = .int .i64 k ∧ av = .complex .f32 pa pb ∧ nv = .float .f32 t ∧ Hid (tRun (cn .f32 turn) (cn .f32 step) (s.data.toList.take k) (some t0) = some S) ∧ Flat1 S ∧ Hid (noBr (s.data.toList.take k) = true) ∧ P.length ≤ 256 ∧ LInv w1 S v pa pb t P wr) (fun _ _ _ i _ => s.size - (intOf i).toNat)
  case atStart => exact ⟨0, t0, 0, 0, 0, [(0, 0)], Nat.zero_le _, rfl, rfl, rfl, Lib.hid rfl, Flat1.start, Lib.hid rfl, by decide, I0⟩
  case round =>
    obtain ⟨k, S, pa, pb, t, P, hk, rfl, rfl, rfl, HR, HF, HB, h256, I⟩ := hrel
    obtain ⟨A, cA, rfl⟩ := own_slice I.own
    have hPl : P.length ≤ 4000 := by omega
    by_cases hlt : k < s.size
    · have hsk : Hid (s.data.toList.take (k + 1) = s.data.toList.take k ++ [s[k]]) := Lib.hid (take_snoc s k hlt)
      by_cases h91 : (s[k].toNat : Int) = 91
      · have hc : s[k] = 91 := UInt8.toNat_inj.1 (by show _ = 91; omega)
        have hno := Lib.hid (tLn_br (turn := turn) (step := step) (noBr_bad hlt (.inl hc)))
        have hbel := Below.step hbw I.bel
        clear hc
        go_wp2
        exact bodyPost_ret (v := .tuple #[.slice none 0 0, .bool false]) (by simp [results, Try.results11, go_sem]) rfl (COne.no hno.out hbel)
      · have n91 : ¬ s[k] = 91 := fun e => h91 (by rw [e]; rfl)
        by_cases h93 : (s[k].toNat : Int) = 93
        · have hc : s[k] = 93 := UInt8.toNat_inj.1 (by show _ = 93; omega)
          have hno := Lib.hid (tLn_br (turn := turn) (step := step) (noBr_bad hlt (.inr hc)))
          have hbel := Below.step hbw I.bel
          clear hc
          go_wp2
          exact bodyPost_ret (v := .tuple #[.slice none 0 0, .bool false]) (by simp [results, Try.results11, go_sem]) rfl (COne.no hno.out hbel)
        · have n93 : ¬ s[k] = 93 := fun e => h93 (by rw [e]; rfl)
          by_cases h70 : (s[k].toNat : Int) = 70
          · have hc : s[k] = 70 := UInt8.toNat_inj.1 (by show _ = 70; omega)
            have hst : Hid (tStep (cn .f32 turn) (cn .f32 step) s[k] S = some ⟨tAt (cn .f32 step) S, S.now, S.st, S.fr ++ [S.at_], S.to ++ [tAt (cn .f32 step) S]⟩) := Lib.hid (by unfold tStep; rw [if_pos (.inl hc)])
            clear hc
            go_wp2_with fail
            refine (turned_at _ _ _ (cn .f32 t) (by rw [if_neg (by omega), if_neg (by omega)]) _).mono ?_
            rintro e w3 ⟨r, n3, rfl, hr, hw3⟩
            have I3 : LInv w1 S (.slice A P.length cA) pa pb t P w3 := by rw [hw3]; exact I.drewN n3
            clear hw3 I
            have I4 := I3.now hr
            clear I3 hr
            go_wp2_with fail
            refine (moves_at _ true (by first | rfl | (simp; omega)) _).mono ?_
            rintro e w4 ⟨rfl, rfl⟩
            go_wp2_with fail
            refine (forward_any _ _ _ _ _).mono ?_
            rintro e w6 ⟨a1, b1, n6, rfl, x1, y1, hw6⟩
            have I6 : LInv w1 S (.slice A P.length cA) pa pb r P w6 := by rw [hw6]; exact I4.drewN n6
            clear hw6 I4
            have hz6 := I6.bel.size
            have IO := I6.own
            have X1 := Lib.hid x1
            have Y1 := Lib.hid y1
            clear x1 y1
            go_wp2_with (at_builtin; refine wpList_pushK rfl _ _ 23 rfl w1.heap.size 39 j0 (.complex .f32 0 0) 8 Try.underlying23 hj0 jz0 jz1 jz2 rfl _ P.length (P.map cv) rfl IO _ rfl rfl (by unfold maxLen; omega) (by omega) (by omega) ?_)
            intro v7 w7 ho kk hn
            have I7 := I6.push X1.out Y1.out ho kk
            clear I6 IO ho kk hn hz6
            obtain ⟨A7, c7, rfl⟩ := own_slice I7.own
            have hql : (P ++ [(a1, b1)]).length = P.length + 1 := by simp
            by_cases h256 : 256 < P.length + 1
            · have hno := Lib.hid (tLn_none (s := s) (turn := turn) (step := step) (by rw [HALL.out]; exact out_long' (run_step hsk.out HR.out hst.out) (by have := I7.len; omega)))
              have hbel := Below.step hbw I7.bel
              clear I7
              go_wp2
              exact bodyPost_ret (v := .tuple #[.slice none 0 0, .bool false]) (by simp [results, Try.results11, go_sem]) rfl (COne.no hno.out hbel)
            · have hq2 : (P ++ [(a1, b1)]).length ≤ 256 := by omega
              have HM := Lib.hid I7
              go_wp2
              go_roundw
              case rel => exact ⟨k + 1, _, _, _, _, _, by omega, by go_num, rfl, rfl, Lib.hid (run_step hsk.out HR.out hst.out), HF.step n91 n93 hst.out, Lib.hid (noBr_go hsk.out HB.out n91 n93), hq2, HM.out⟩
              case measure => simp [intOf]; omega
          · skip
            by_cases h71 : (s[k].toNat : Int) = 71
            · have hc : s[k] = 71 := UInt8.toNat_inj.1 (by show _ = 71; omega)
              have hst : Hid (tStep (cn .f32 turn) (cn .f32 step) s[k] S = some ⟨tAt (cn .f32 step) S, S.now, S.st, S.fr ++ [S.at_], S.to ++ [tAt (cn .f32 step) S]⟩) := Lib.hid (by unfold tStep; rw [if_pos (.inr hc)])
              clear hc
              go_wp2_with fail
              refine (turned_at _ _ _ (cn .f32 t) (by rw [if_neg (by omega), if_neg (by omega)]) _).mono ?_
              rintro e w3 ⟨r, n3, rfl, hr, hw3⟩
              have I3 : LInv w1 S (.slice A P.length cA) pa pb t P w3 := by rw [hw3]; exact I.drewN n3
              clear hw3 I
              have I4 := I3.now hr
              clear I3 hr
              go_wp2_with fail
              refine (moves_at _ true (by first | rfl | (simp; omega)) _).mono ?_
              rintro e w4 ⟨rfl, rfl⟩
              go_wp2_with fail
              refine (forward_any _ _ _ _ _).mono ?_
              rintro e w6 ⟨a1, b1, n6, rfl, x1, y1, hw6⟩
              have I6 : LInv w1 S (.slice A P.length cA) pa pb r P w6 := by rw [hw6]; exact I4.drewN n6
              clear hw6 I4
              have hz6 := I6.bel.size
              have IO := I6.own
              have X1 := Lib.hid x1
              have Y1 := Lib.hid y1
              clear x1 y1
              go_wp2_with (at_builtin; refine wpList_pushK rfl _ _ 23 rfl w1.heap.size 39 j0 (.complex .f32 0 0) 8 Try.underlying23 hj0 jz0 jz1 jz2 rfl _ P.length (P.map cv) rfl IO _ rfl rfl (by unfold maxLen; omega) (by omega) (by omega) ?_)
              intro v7 w7 ho kk hn
              have I7 := I6.push X1.out Y1.out ho kk
              clear I6 IO ho kk hn hz6
              obtain ⟨A7, c7, rfl⟩ := own_slice I7.own
              have hql : (P ++ [(a1, b1)]).length = P.length + 1 := by simp
              by_cases h256 : 256 < P.length + 1
              · have hno := Lib.hid (tLn_none (s := s) (turn := turn) (step := step) (by rw [HALL.out]; exact out_long' (run_step hsk.out HR.out hst.out) (by have := I7.len; omega)))
                have hbel := Below.step hbw I7.bel
                clear I7
                go_wp2
                exact bodyPost_ret (v := .tuple #[.slice none 0 0, .bool false]) (by simp [results, Try.results11, go_sem]) rfl (COne.no hno.out hbel)
              · have hq2 : (P ++ [(a1, b1)]).length ≤ 256 := by omega
                have HM := Lib.hid I7
                go_wp2
                go_roundw
                case rel => exact ⟨k + 1, _, _, _, _, _, by omega, by go_num, rfl, rfl, Lib.hid (run_step hsk.out HR.out hst.out), HF.step n91 n93 hst.out, Lib.hid (noBr_go hsk.out HB.out n91 n93), hq2, HM.out⟩
                case measure => simp [intOf]; omega
            · skip
              by_cases h43 : (s[k].toNat : Int) = 43
              · have hc : s[k] = 43 := UInt8.toNat_inj.1 (by show _ = 43; omega)
                have hst : Hid (tStep (cn .f32 turn) (cn .f32 step) s[k] S = some ⟨S.at_, fop .add .f32 S.now (cn .f32 turn), S.st, S.fr, S.to⟩) := Lib.hid (by rw [hc]; rfl)
                clear hc
                go_wp2_with fail
                refine (turned_at _ _ _ (fop .add .f32 (cn .f32 t) (cn .f32 turn)) (by rw [if_pos (by omega)]) _).mono ?_
                rintro e w3 ⟨r, n3, rfl, hr, hw3⟩
                have I3 : LInv w1 S (.slice A P.length cA) pa pb t P w3 := by rw [hw3]; exact I.drewN n3
                clear hw3 I
                have I4 : LInv w1 ⟨S.at_, fop .add .f32 S.now (cn .f32 turn), S.st, S.fr, S.to⟩ (.slice A P.length cA) pa pb r P w3 := ⟨I3.sat, by rw [hr]; simp only [I3.snow], I3.sto, I3.own, I3.bel⟩
                clear I3 hr
                go_wp2_with fail
                refine (moves_at _ false (by first | rfl | (simp; omega)) _).mono ?_
                rintro e w4 ⟨rfl, rfl⟩
                go_wp2
                go_roundw
                case rel => exact ⟨k + 1, _, _, _, _, _, by omega, by go_num, rfl, rfl, Lib.hid (run_step hsk.out HR.out hst.out), HF.step n91 n93 hst.out, Lib.hid (noBr_go hsk.out HB.out n91 n93), h256, I4⟩
                case measure => simp [intOf]; omega
              · skip
                by_cases h45 : (s[k].toNat : Int) = 45
                · have hc : s[k] = 45 := UInt8.toNat_inj.1 (by show _ = 45; omega)
                  have hst : Hid (tStep (cn .f32 turn) (cn .f32 step) s[k] S = some ⟨S.at_, fop .sub .f32 S.now (cn .f32 turn), S.st, S.fr, S.to⟩) := Lib.hid (by rw [hc]; rfl)
                  clear hc
                  go_wp2_with fail
                  refine (turned_at _ _ _ (fop .sub .f32 (cn .f32 t) (cn .f32 turn)) (by rw [if_neg (by omega), if_pos (by omega)]) _).mono ?_
                  rintro e w3 ⟨r, n3, rfl, hr, hw3⟩
                  have I3 : LInv w1 S (.slice A P.length cA) pa pb t P w3 := by rw [hw3]; exact I.drewN n3
                  clear hw3 I
                  have I4 : LInv w1 ⟨S.at_, fop .sub .f32 S.now (cn .f32 turn), S.st, S.fr, S.to⟩ (.slice A P.length cA) pa pb r P w3 := ⟨I3.sat, by rw [hr]; simp only [I3.snow], I3.sto, I3.own, I3.bel⟩
                  clear I3 hr
                  go_wp2_with fail
                  refine (moves_at _ false (by first | rfl | (simp; omega)) _).mono ?_
                  rintro e w4 ⟨rfl, rfl⟩
                  go_wp2
                  go_roundw
                  case rel => exact ⟨k + 1, _, _, _, _, _, by omega, by go_num, rfl, rfl, Lib.hid (run_step hsk.out HR.out hst.out), HF.step n91 n93 hst.out, Lib.hid (noBr_go hsk.out HB.out n91 n93), h256, I4⟩
                  case measure => simp [intOf]; omega
                · skip
                  have hst : Hid (tStep (cn .f32 turn) (cn .f32 step) s[k] S = some S) := Lib.hid (by
                    have m1 : ¬ s[k] = 70 := fun e => h70 (by rw [e]; rfl)
                    have m2 : ¬ s[k] = 71 := fun e => h71 (by rw [e]; rfl)
                    have m3 : ¬ s[k] = 43 := fun e => h43 (by rw [e]; rfl)
                    have m4 : ¬ s[k] = 45 := fun e => h45 (by rw [e]; rfl)
                    unfold tStep
                    simp [m1, m2, m3, m4, n91, n93])
                  go_wp2_with fail
                  refine (turned_at _ _ _ (cn .f32 t) (by rw [if_neg (by omega), if_neg (by omega)]) _).mono ?_
                  rintro e w3 ⟨r, n3, rfl, hr, hw3⟩
                  have I3 : LInv w1 S (.slice A P.length cA) pa pb t P w3 := by rw [hw3]; exact I.drewN n3
                  clear hw3 I
                  have I4 := I3.now hr
                  clear I3 hr
                  go_wp2_with fail
                  refine (moves_at _ false (by first | rfl | (simp; omega)) _).mono ?_
                  rintro e w4 ⟨rfl, rfl⟩
                  go_wp2
                  go_roundw
                  case rel => exact ⟨k + 1, _, _, _, _, _, by omega, by go_num, rfl, rfl, Lib.hid (run_step hsk.out HR.out hst.out), HF.step n91 n93 hst.out, Lib.hid (noBr_go hsk.out HB.out n91 n93), h256, I4⟩
                  case measure => simp [intOf]; omega
    · obtain rfl : k = s.size := by omega
      have hbel := Below.step hbw I.bel
      have hzz := hbw.size
      have oB := (OwnS.of_own I.own).less (show w.heap.size ≤ w1.heap.size by omega)
      have hbr := noBr_end HB.out
      have hlen := I.len
      have e2 : finQ S.to = finCL P := by rw [← finQ_cons, ← I.sto, finQ_cp]
      have HP : Hid (cp P = (0, 0) :: S.to) := Lib.hid I.sto
      have dP : (decide (P.length ≤ 256) && finCL P) = finCL P := by simp [h256]
      cases hf1 : finCL P
      · have hno := Lib.hid (tLn_none (s := s) (turn := turn) (step := step) (by rw [HALL.out]; exact out_bad HR.out (fun h => by rw [e2, hf1] at h; exact absurd h.2.2.2 (by decide))))
        clear e2 I hlen
        go_wp2_with fail
        refine (l02Points_any _ _ P _ oB.1 (by unfold maxLen; omega)).mono ?_
        rintro e w' ⟨rfl, n3, rfl⟩
        rw [dP, hf1]
        clear dP
        go_wp2
        exact bodyPost_ret (v := .tuple #[.slice none 0 0, .bool false]) (by simp [results, Try.results11, go_sem]) rfl (COne.no hno.out (below_drawN hbel _))
      · have hyes := Lib.hid (tLn_some (s := s) (turn := turn) (step := step) hbr (by rw [HALL.out]; exact out_good HR.out ⟨by rw [HF.st]; rfl, by omega, HF.fin (by rw [e2]; exact hf1), by rw [e2]; exact hf1⟩))
        clear e2 I hlen
        go_wp2_with fail
        refine (l02Points_any _ _ P _ oB.1 (by unfold maxLen; omega)).mono ?_
        rintro e w' ⟨rfl, n3, rfl⟩
        rw [dP, hf1]
        clear dP
        go_wp2
        exact bodyPost_ret (v := .tuple #[.slice A P.length cA, .bool true]) (by simp [results, Try.results11, go_sem]) rfl (COne.yes hyes.out oB HP.out (below_drawN hbel _))
set_option maxRecDepth 100000 in
set_option maxHeartbeats 1000000 in
theorem specLn_any (s : ByteArray) (turn step : Nat) (w : World) (hs : s.size ≤ maxLen) :
    Calls Try.prog 11 #[.string s, .float .f32 turn, .float .f32 step] w (COne w (lnL (tLn s turn step)) (tLn s turn step).isSome) := by
  cases hw : wordB 4000 s.data.toList
  · have hno := Lib.hid (tLn_none (s := s) (turn := turn) (step := step) <| tAll_no (fun h => by rw [hw] at h; exact absurd h.1 (by decide)))
    go_enter Try.func11, Try.ntmps11
    go_wp2_with fail
    refine (specIsWord_any _ _ hs).mono ?_
    rintro e w' ⟨rfl, rfl⟩
    rw [hw]
    go_wp2
    exact bodyPost_ret (v := .tuple #[.slice none 0 0, .bool false]) (by simp [results, Try.results11, go_sem]) rfl (COne.no hno.out (Below.refl _ _))
  · cases h1 : finB (cn .f32 turn)
    · have hno := Lib.hid (tLn_none (s := s) (turn := turn) (step := step) <| tAll_no (fun h => by rw [h1] at h; exact absurd h.2.1 (by decide)))
      go_enter Try.func11, Try.ntmps11
      go_wp2_with fail
      refine (specIsWord_any _ _ hs).mono ?_
      rintro e w' ⟨rfl, rfl⟩
      rw [hw]
      go_wp2_with fail
      refine (l01Finite_any _ _).mono ?_
      rintro e w' ⟨rfl, n1, rfl⟩
      rw [h1]
      go_wp2
      exact bodyPost_ret (v := .tuple #[.slice none 0 0, .bool false]) (by simp [results, Try.results11, go_sem]) rfl (COne.no hno.out (below_drawN (Below.refl _ _) _))
    · cases h2 : finB (cn .f32 step)
      · have hno := Lib.hid (tLn_none (s := s) (turn := turn) (step := step) <| tAll_no (fun h => by rw [h2] at h; exact absurd h.2.2 (by decide)))
        go_enter Try.func11, Try.ntmps11
        go_wp2_with fail
        refine (specIsWord_any _ _ hs).mono ?_
        rintro e w' ⟨rfl, rfl⟩
        rw [hw]
        go_wp2_with fail
        refine (l01Finite_any _ _).mono ?_
        rintro e w' ⟨rfl, n1, rfl⟩
        rw [h1]
        go_wp2_with fail
        refine (l01Finite_any _ _).mono ?_
        rintro e w' ⟨rfl, n2, rfl⟩
        rw [h2]
        go_wp2
        exact bodyPost_ret (v := .tuple #[.slice none 0 0, .bool false]) (by simp [results, Try.results11, go_sem]) rfl (COne.no hno.out (below_drawN (Below.refl _ _) _))
      · exact specLn_yes s turn step w hs hw h1 h2
end Go.Proofs.Yteolemgilajaeaa
