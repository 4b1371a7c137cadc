/- TurtleLine, the program's side. -/
import Derived.Test.YteolemgilajaeaaLn
import Derived.Lib.IndexAny
namespace Go.Proofs.Yteolemgilajaeaa
open Go.RowKit Ieee

theorem idx_br : ∀ l : List UInt8, (0 ≤ Lib.indexAny l [91, 93]) = (noBr l = false)
  | [] => by simp [Lib.indexAny, noBr]
  | b :: l => by
    have ih := idx_br l
    have hge := Lib.indexAny_ge [91, 93] l
    unfold Lib.indexAny noBr
    rw [List.all_cons]
    by_cases hb : b = 91 ∨ b = 93
    · have h1 : ([91, 93] : List UInt8).contains b = true := by rcases hb with rfl | rfl <;> rfl
      rw [if_pos h1]
      rcases hb with rfl | rfl <;> simp
    · have h1 : ([91, 93] : List UInt8).contains b = false := by
        have n1 : ¬ b = 91 := fun h => hb (.inl h)
        have n2 : ¬ b = 93 := fun h => hb (.inr h)
        simp [n1, n2]
      have h2 : (!(b == 91 || b == 93)) = true := by
        have n1 : ¬ b = 91 := fun h => hb (.inl h)
        have n2 : ¬ b = 93 := fun h => hb (.inr h)
        simp [n1, n2]
      rw [h1, h2, Bool.true_and, if_neg (by decide)]
      unfold noBr at ih
      rw [← ih]
      generalize Lib.indexAny l [91, 93] = z at *
      apply propext
      by_cases hz : z = -1
      · subst hz; simp
      · have : ¬ (z == -1) = true := by simpa using hz
        rw [if_neg this]
        omega
theorem any_br (l : List UInt8) : Lib.containsAny l [91, 93] = !noBr l := by
  unfold Lib.containsAny
  have h := idx_br l
  cases hn : noBr l
  · rw [hn] at h
    simp [h]
  · rw [hn] at h
    simp [h]
theorem word_ascii {s : ByteArray} (hw : wordB 4000 s.data.toList = true) : s.size ≤ 4000 ∧ ∀ (j : Nat) b, s.data.toList[j]? = some b → b.toNat < 128 := by
  unfold wordB at hw
  rw [Bool.and_eq_true] at hw
  have h1 := of_decide_eq_true hw.1
  have e : s.data.toList.length = s.size := by simp
  refine ⟨by omega, fun j b hj => ?_⟩
  have hm : b ∈ s.data.toList := List.mem_of_getElem? hj
  have := List.all_eq_true.1 hw.2 b hm
  unfold okc ltr sgC at this
  simp at this
  omega
theorem tAll_word {s : ByteArray} {turn step most : Nat} {x : List (Nat × Nat) × List (Nat × Nat)} (h : tAll s turn step most = some x) : wordB 4000 s.data.toList = true ∧ x.2.length ≤ most := by
  unfold tAll at h
  split at h
  · rename_i hc
    rw [Bool.and_eq_true, Bool.and_eq_true] at hc
    refine ⟨hc.1.1, ?_⟩
    unfold tOut at h
    split at h
    · cases h
    · split at h
      · rename_i hd
        injection h with h
        subst h
        exact hd.2.1
      · cases h
  · cases h
set_option maxRecDepth 100000 in
set_option maxHeartbeats 4000000 in
theorem implLn_any (s : ByteArray) (turn step : Nat) (w : World) (hs : s.size ≤ maxLen) :
    Calls Try.prog 12 #[.string s, .float .f32 turn, .float .f32 step] w (COne w (lnL (tLn s turn step)) (tLn s turn step).isSome) := by
  obtain ⟨j0, hj0, jz0, jz1, jz2⟩ := info_parts' info.c64
  have H := turtle_any s turn step 255 w hs
  rw [show ((255 : Nat) : Int) = 255 from rfl] at H
  cases ho : tAll s turn step 255 with
  | none =>
    have hno := Lib.hid (tLn_none ho)
    rw [ho] at H
    have HH := Lib.hid H
    clear H ho
    go_enter Try.func12, Try.ntmps12
    go_wp2_with fail
    refine HH.out.mono ?_
    rintro e w' ⟨A, c, P, A', c', Q, rfl, _, _, _, _, _, k⟩
    clear HH
    go_wp2
    exact bodyPost_ret (v := .tuple #[.slice none 0 0, .bool false]) (by simp [results, Try.results12, go_sem]) rfl (COne.no hno.out k)
  | some x =>
    obtain ⟨hw, hx⟩ := tAll_word ho
    obtain ⟨hs4, has⟩ := word_ascii hw
    have HC := Lib.hid (fun w => Try.strings_ContainsAny_laid s ⟨#[91, 93]⟩ w (by omega) (by decide) has (fun j b hj => by
      have hm : b ∈ ([91, 93] : List UInt8) := List.mem_of_getElem? hj
      simp at hm
      rcases hm with rfl | rfl <;> decide))
    have hca : Lib.containsAny s.data.toList (⟨#[91, 93]⟩ : ByteArray).data.toList = !noBr s.data.toList := any_br _
    have HB := Lib.hid hca
    clear has hca hw
    cases hb : noBr s.data.toList
    · have hno := Lib.hid (tLn_br (turn := turn) (step := step) hb)
      rw [ho] at H
      have HH := Lib.hid H
      clear H ho
      go_enter Try.func12, Try.ntmps12
      go_wp2_with fail
      refine HH.out.mono ?_
      rintro e w' ⟨A, c, P, A', c', Q, rfl, _, _, _, _, _, k⟩
      clear HH
      go_wp2_with fail
      refine (HC.out _).mono ?_
      rintro e w2 ⟨rfl, k2⟩
      rw [HB.out, hb]
      go_wp2
      exact bodyPost_ret (v := .tuple #[.slice none 0 0, .bool false]) (by simp [results, Try.results12, go_sem]) rfl (COne.no hno.out (Below.step k k2))
    · have hyes := Lib.hid (tLn_some (turn := turn) (step := step) hb ho)
      rw [ho] at H
      have HH := Lib.hid H
      clear H ho
      go_enter Try.func12, Try.ntmps12
      go_wp2_with fail
      refine HH.out.mono ?_
      rintro e w' ⟨A, c, P, A', c', Q, rfl, _, oQ, _, _, eQ, k⟩
      have EQ : Hid (cp Q = x.2) := Lib.hid eQ
      have hql : Q.length ≤ 255 := by rw [← cp_len, eQ]; exact hx
      clear HH eQ
      go_wp2_with fail
      refine (HC.out _).mono ?_
      rintro e w2 ⟨rfl, k2⟩
      rw [HB.out, hb]
      have oQ2 := oQ.below k2
      have K2 := Below.step k k2
      clear k k2 oQ
      have z2 := K2.size
      have own1 : (w2.alloc (.cells #[.complex .f32 0 0] 39)).ownsRow w2.heap.size 39 1 (.slice (some ⟨w2.heap.size, 0, none⟩) 1 1) 1 [.complex .f32 0 0] :=
        ⟨rfl, .inr ⟨w2.heap.size, 1, #[.complex .f32 0 0], rfl, Nat.le_refl _, heap_alloc_new w2 _, Nat.le_refl _, by unfold maxLen; omega, rfl, rfl⟩⟩
      have oQ3 := oQ2.below (below_alloc w2 (.cells #[.complex .f32 0 0] 39))
      have zz := size_alloc_lt w2 (.cells #[.complex .f32 0 0] 39)
      cases A' with
      | none =>
        have hQ : Q = [] := by
          cases Q with
          | nil => rfl
          | cons q l =>
            obtain ⟨b, o, e1, _⟩ := oQ2.1 0 (cv q) rfl
            cases e1
        subst hQ
        have HP : Hid (cp [(0, 0)] = (0, 0) :: x.2) := Lib.hid (by rw [← EQ.out]; rfl)
        have o7 : (w2.alloc (.cells #[.complex .f32 0 0] 39)).ownsRow w2.heap.size 39 1 (.slice (some ⟨w2.heap.size, 0, none⟩) 1 1) 1 ([((0 : Nat), (0 : Nat))].map cv) := own1
        have oB := (OwnS.of_own o7).less (show w.heap.size ≤ w2.heap.size by omega)
        have K7 := Below.step K2 (below_alloc w2 (.cells #[.complex .f32 0 0] 39))
        clear oQ2 oQ3
        go_wp2
        exact bodyPost_ret (v := .tuple #[.slice (some ⟨w2.heap.size, 0, none⟩) 1 1, .bool true]) (by simp [results, Try.results12, go_sem]) rfl (COne.yes (P := [(0, 0)]) hyes.out oB HP.out K7)
      | some q =>
        have hnews : ∀ (j : Nat) u, (Q.map cv)[j]? = some u → (w2.alloc (.cells #[.complex .f32 0 0] 39)).cell? (q.add j) = some u := by
          intro j u hj
          obtain ⟨b, o, e1, _, e3⟩ := oQ3.1 j u hj
          injection e1 with e1
          subst e1
          have ea : (⟨b, o, none⟩ : Addr).add j = ⟨b, o + j, none⟩ := by
            unfold Addr.add
            split
            · rename_i h; rw [h]; rfl
            · rfl
          rw [ea]
          exact e3
        have HN := Lib.hid hnews
        clear hnews oQ2 oQ3
        go_wp2_with (at_builtin; refine wpList_append_own _ rfl _ _ 23 rfl w2.heap.size 39 j0 (.complex .f32 0 0) 1 8 Try.underlying23 hj0 jz0 jz1 jz2 rfl (by decide) _ 1 [.complex .f32 0 0] rfl own1 q Q.length c' (Q.map cv) rfl (by rw [List.length_map, Nat.mul_one]) HN.out (by intro u hu; obtain ⟨b, _, rfl⟩ := List.mem_map.1 hu; rfl) (by unfold maxLen; omega) (by omega) zz ?_)
        intro v7 w7 ho7 hg7 _
        obtain ⟨A7, c7, rfl⟩ := own_slice ho7
        have K7 : Below w.heap.size w w7 := Below.step K2 (((Below.refl _ _).alloc (Nat.le_refl _) _).trans (own_below own1 hg7 rfl zz))
        have o7 : w7.ownsRow w2.heap.size 39 1 (.slice A7 (1 + Q.length) c7) (1 + Q.length) (((0, 0) :: Q).map cv) := ho7
        have hl7 : ((0, 0) :: Q).length = 1 + Q.length := by simp; omega
        have oB := (OwnS.of_own o7).less (show w.heap.size ≤ w2.heap.size by omega)
        have HP : Hid (cp ((0, 0) :: Q) = (0, 0) :: x.2) := Lib.hid (by rw [← EQ.out]; rfl)
        go_wp2
        refine bodyPost_ret (v := .tuple #[.slice A7 (1 + Q.length) c7, .bool true]) (by simp [results, Try.results12, go_sem]) rfl ?_
        rw [← hl7]
        exact COne.yes hyes.out oB HP.out K7
end Go.Proofs.Yteolemgilajaeaa
