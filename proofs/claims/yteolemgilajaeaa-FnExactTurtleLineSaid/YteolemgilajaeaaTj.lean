/- TurtleTwigs, the program's side: the walk. -/
import Derived.Test.YteolemgilajaeaaTi
import Derived.Deep.RegionWith
import Derived.BigRegion
namespace Go.Proofs.Yteolemgilajaeaa
open Go.RowKit Ieee

theorem run_bounds {turn step : Nat} {s : ByteArray} {k : Nat} {S : TS} (h : tRun turn step (s.data.toList.take k) (some t0) = some S) : S.to.length ≤ k ∧ S.fr.length = S.to.length ∧ S.st.length ≤ k := by
  obtain ⟨_, a, b, c⟩ := tRun_mono _ _ _ _ _ h
  have : (s.data.toList.take k).length ≤ k := by rw [List.length_take]; omega
  refine ⟨by have : t0.to.length = 0 := rfl
             omega, b rfl, by have : t0.st.length = 0 := rfl
                              omega⟩
theorem TInv.lens {w1 wr : World} {S : TS} {vk vb ve : Value} {pa pb t : Nat} {K : List ((Nat × Nat) × Nat)} {P Q : List (Nat × Nat)} (I : TInv w1 S vk vb ve pa pb t K P Q wr) : P.length = S.fr.length ∧ Q.length = S.to.length ∧ K.length = S.st.length := by
  refine ⟨by rw [I.sfr, cp_len], by rw [I.sto, cp_len], by rw [I.sst, List.length_map]⟩
theorem at_eq {S : TS} {pa pb t step a1 b1 a2 b2 a3 b3 : Nat} {w : World} (h0 : S.at_ = (cn .f32 pa, cn .f32 pb)) (h1 : S.now = cn .f32 t) (x1 : cn .f32 a1 = (phV (wres t w)).1) (y1 : cn .f32 b1 = (phV (wres t w)).2)
    (x2 : cn .f32 a2 = (cscale (cn .f32 a1, cn .f32 b1) (cn .f32 step)).1) (y2 : cn .f32 b2 = (cscale (cn .f32 a1, cn .f32 b1) (cn .f32 step)).2)
    (x3 : cn .f32 a3 = (cadd (cn .f32 pa, cn .f32 pb) (cn .f32 a2, cn .f32 b2)).1) (y3 : cn .f32 b3 = (cadd (cn .f32 pa, cn .f32 pb) (cn .f32 a2, cn .f32 b2)).2) : (cn .f32 a3, cn .f32 b3) = tAt (cn .f32 step) S := by
  have hp : phV (wres t w) = phV (c64 (cn .f32 t)) := by rw [← phV_cn, cn_wres]
  unfold tAt
  rw [x3, y3, x2, y2, x1, y1, hp, h0, h1]
theorem run_step {turn step : Nat} {s : ByteArray} {k : Nat} {S T : TS} {c : UInt8} (hs : s.data.toList.take (k + 1) = s.data.toList.take k ++ [c]) (h : tRun turn step (s.data.toList.take k) (some t0) = some S) (ht : tStep turn step c S = some T) : tRun turn step (s.data.toList.take (k + 1)) (some t0) = some T := by
  rw [hs, tRun_snoc, h]
  exact ht
theorem below_drawN {B : Nat} {w w' : World} (h : Below B w w') (n : Nat) : Below B w (w'.drewN n) := ⟨h.os, h.tape, h.output, h.size, h.block⟩
/-- What is answered: two lists of complex numbers in new memory, apart, and a yes or no. -/
def CTwo (w : World) (l1 l2 : List (Nat × Nat)) (ok : Bool) (e : Ending) (w' : World) : Prop :=
  ∃ A c P A' c' Q, e = .returned (.tuple #[.slice A P.length c, .slice A' Q.length c', .bool ok]) ∧ OwnS w.heap.size w' A (P.map cv) ∧ OwnS w.heap.size w' A' (Q.map cv) ∧ (∀ b, InA A b → ¬ InA A' b) ∧ cp P = l1 ∧ cp Q = l2 ∧ Below w.heap.size w w'
def tL1 (o : Option (List (Nat × Nat) × List (Nat × Nat))) : List (Nat × Nat) := match o with | none => [] | some x => x.1
def tL2 (o : Option (List (Nat × Nat) × List (Nat × Nat))) : List (Nat × Nat) := match o with | none => [] | some x => x.2
theorem CTwo.no {w w' : World} {o : Option (List (Nat × Nat) × List (Nat × Nat))} (h : o = none) (k : Below w.heap.size w w') : CTwo w (tL1 o) (tL2 o) o.isSome (.returned (.tuple #[.slice none 0 0, .slice none 0 0, .bool false])) w' := by
  subst h
  exact ⟨none, 0, [], none, 0, [], rfl, OwnS.nil _, OwnS.nil _, (fun b ⟨o, h⟩ => by cases h), rfl, rfl, k⟩
theorem TInv.popK {w1 wr : World} {S : TS} {vb ve : Value} {pa pb t g c : Nat} {K : List ((Nat × Nat) × Nat)} {x : (Nat × Nat) × Nat} {P Q : List (Nat × Nat)} (I : TInv w1 S (.slice (some ⟨g, 0, none⟩) (K.length + 1) c) vb ve pa pb t (K ++ [x]) P Q wr) :
    TInv w1 ⟨S.at_, S.now, S.st.dropLast, S.fr, S.to⟩ (.slice (some ⟨g, 0, none⟩) K.length c) vb ve pa pb t K P Q wr := by
  have hok := I.ok
  rw [List.length_append, List.flatMap_append] at hok
  have hl : (K.flatMap kv).length = K.length * 2 := by
    have := hok.1
    rw [List.length_append] at this
    have e : ([x].flatMap kv).length = 2 := rfl
    rw [e] at this
    have e2 : [x].length = 1 := rfl
    rw [e2] at this
    omega
  exact ⟨I.c0, I.f0, I.c1, I.f1, I.sat, I.snow, by simp only [I.sst]; simp, I.sfr, I.sto, ownsRow_pop hl hok, I.ob, I.oe, I.akb, I.ake, I.abe, I.bel, I.gt⟩
theorem top_cells {w1 wr : World} {S : TS} {vb ve : Value} {pa pb t c : Nat} {A : Option Addr} {K : List ((Nat × Nat) × Nat)} {x : (Nat × Nat) × Nat} {P Q : List (Nat × Nat)} (I : TInv w1 S (.slice A (K.length + 1) c) vb ve pa pb t (K ++ [x]) P Q wr) :
    ∃ g, A = some ⟨g, 0, none⟩ ∧ K.length + 1 ≤ c ∧ w1.heap.size < g ∧ wr.cell? ⟨g, K.length * 2, none⟩ = some (.complex .f32 x.1.1 x.1.2) ∧ wr.cell? ⟨g, K.length * 2 + 1, none⟩ = some (.float .f32 x.2) := by
  have hok := I.ok
  rw [List.length_append, List.flatMap_append] at hok
  have hl : (K.flatMap kv).length = K.length * 2 := by
    have := hok.1
    rw [List.length_append] at this
    have e : ([x].flatMap kv).length = 2 := rfl
    rw [e] at this
    have e2 : [x].length = 1 := rfl
    rw [e2] at this
    omega
  have hr := Rd.of_own hok
  obtain ⟨g, e1, hc, hg⟩ : ∃ g, A = some ⟨g, 0, none⟩ ∧ K.length + 1 ≤ c ∧ w1.heap.size + 1 ≤ g := by
    rcases hok.2 with ⟨hv, hn⟩ | ⟨g, cap, cur, hv, hg, hh, hc, _⟩
    · simp at hn
    · injection hv with e1 e2 e3
      have e4 : [x].length = 1 := rfl
      rw [e4] at hc
      exact ⟨g, e1, by omega, hg⟩
  subst e1
  obtain ⟨b, o, h1, h2, h3⟩ := hr (K.length * 2) (.complex .f32 x.1.1 x.1.2) (by rw [List.getElem?_append_right (by omega), hl]; simp [kv])
  obtain ⟨b', o', h1', h2', h3'⟩ := hr (K.length * 2 + 1) (.float .f32 x.2) (by rw [List.getElem?_append_right (by omega), hl]; simp [kv])
  injection h1 with h1; injection h1 with ha hb
  injection h1' with h1'; injection h1' with ha' hb'
  subst ha; subst hb; subst ha'; subst hb'
  rw [Nat.zero_add] at h3 h3'
  exact ⟨g, rfl, hc, by omega, h3, h3'⟩
theorem st_last {turn step : Nat} {c : UInt8} {S : TS} {K : List ((Nat × Nat) × Nat)} {x : (Nat × Nat) × Nat} (hc : c = 93) (h : S.st = (K ++ [x]).map ck) : tStep turn step c S = some ⟨(cn .f32 x.1.1, cn .f32 x.1.2), cn .f32 x.2, S.st.dropLast, S.fr, S.to⟩ := by
  subst hc
  have : S.st.getLast? = some (ck x) := by rw [h, List.map_append]; simp
  unfold tStep
  rw [if_neg (by decide), if_neg (by decide), if_neg (by decide), if_neg (by decide), if_pos rfl, this]
  rfl
theorem st_none {turn step : Nat} {c : UInt8} {S : TS} (hc : c = 93) (h : S.st = []) : tStep turn step c S = none := by
  subst hc
  unfold tStep
  rw [if_neg (by decide), if_neg (by decide), if_neg (by decide), if_neg (by decide), if_pos rfl, h]
  rfl
/-- Where a round fails, all fails. -/
theorem out_none {turn step most k : Nat} {s : ByteArray} {S : TS} {c : UInt8} (hs : s.data.toList.take (k + 1) = s.data.toList.take k ++ [c]) (h : tRun turn step (s.data.toList.take k) (some t0) = some S) (ht : tStep turn step c S = none) : tOut turn step most s.data.toList = none := by
  have h1 : tRun turn step (s.data.toList.take (k + 1)) (some t0) = none := by
    rw [hs, tRun_snoc, h]
    exact ht
  have h2 : tRun turn step s.data.toList (some t0) = none := by
    rw [← List.take_append_drop (k + 1) s.data.toList, tRun_app, h1, tRun_none]
  unfold tOut
  rw [h2]
theorem out_all {turn step : Nat} {s : ByteArray} {S : TS} (h : tRun turn step (s.data.toList.take s.size) (some t0) = some S) : tRun turn step s.data.toList (some t0) = some S := by
  have : s.data.toList.take s.size = s.data.toList := List.take_of_length_le (by simp)
  rw [this] at h
  exact h
theorem out_bad {turn step most : Nat} {s : ByteArray} {S : TS} (h : tRun turn step (s.data.toList.take s.size) (some t0) = some S) (hb : ¬ (S.st.length = 0 ∧ S.to.length ≤ most ∧ finQ S.fr = true ∧ finQ S.to = true)) : tOut turn step most s.data.toList = none := by
  unfold tOut
  rw [out_all h]
  exact if_neg hb
theorem out_good {turn step most : Nat} {s : ByteArray} {S : TS} (h : tRun turn step (s.data.toList.take s.size) (some t0) = some S) (hb : S.st.length = 0 ∧ S.to.length ≤ most ∧ finQ S.fr = true ∧ finQ S.to = true) : tOut turn step most s.data.toList = some (S.fr, S.to) := by
  unfold tOut
  rw [out_all h]
  exact if_pos hb
theorem CTwo.yes {w w' : World} {o : Option (List (Nat × Nat) × List (Nat × Nat))} {l1 l2 : List (Nat × Nat)} (h : o = some (l1, l2)) {A A' : Option Addr} {c c' : Nat} {P Q : List (Nat × Nat)} (h1 : OwnS w.heap.size w' A (P.map cv)) (h2 : OwnS w.heap.size w' A' (Q.map cv)) (h3 : ∀ b, InA A b → ¬ InA A' b) (h4 : cp P = l1) (h5 : cp Q = l2) (k : Below w.heap.size w w') :
    CTwo w (tL1 o) (tL2 o) o.isSome (.returned (.tuple #[.slice A P.length c, .slice A' Q.length c', .bool true])) w' := by
  subst h
  exact ⟨A, c, P, A', c', Q, rfl, h1, h2, h3, h4, h5, k⟩
theorem own_start {w1 : World} : TInv w1 t0 (.slice (some ⟨w1.heap.size + 1, 0, none⟩) 0 0) (.slice (some ⟨w1.heap.size + 1 + 1, 0, none⟩) 0 0) (.slice (some ⟨w1.heap.size + 1 + 1 + 1, 0, none⟩) 0 0) 0 0 0 [] [] [] ((((w1.alloc (.cells #[.complex .f32 0 0, .float .f32 0] 63)).alloc (.cells #[] 63)).alloc (.cells #[] 39)).alloc (.cells #[] 39)) := by
  have z1 : (w1.alloc (.cells #[.complex .f32 0 0, .float .f32 0] 63)).heap.size = w1.heap.size + 1 := World.size_alloc _ _
  obtain ⟨v1, hv1⟩ : ∃ v1, v1 = w1.alloc (.cells #[.complex .f32 0 0, .float .f32 0] 63) := ⟨_, rfl⟩
  have a0 : v1.cell? ⟨w1.heap.size, 0, none⟩ = some (.complex .f32 0 0) := by rw [hv1]; unfold World.cell?; rw [heap_alloc_new]; rfl
  have a1 : v1.cell? ⟨w1.heap.size, 1, none⟩ = some (.float .f32 0) := by rw [hv1]; unfold World.cell?; rw [heap_alloc_new]; rfl
  have b0 : v1.frozen? ⟨w1.heap.size, 0, none⟩ = false := by rw [hv1]; unfold World.frozen?; rw [heap_alloc_new]; rfl
  have b1 : v1.frozen? ⟨w1.heap.size, 1, none⟩ = false := by rw [hv1]; unfold World.frozen?; rw [heap_alloc_new]; rfl
  have k0 : Below w1.heap.size w1 v1 := by rw [hv1]; exact below_alloc _ _
  rw [← hv1] at z1 ⊢
  clear hv1
  have z2 : (v1.alloc (.cells #[] 63)).heap.size = v1.heap.size + 1 := World.size_alloc _ _
  have z3 : ((v1.alloc (.cells #[] 63)).alloc (.cells #[] 39)).heap.size = v1.heap.size + 1 + 1 := by rw [World.size_alloc, z2]
  have k1 : Below v1.heap.size v1 (((v1.alloc (.cells #[] 63)).alloc (.cells #[] 39)).alloc (.cells #[] 39)) := Below.step (below_alloc _ _) (Below.step (below_alloc _ _) (below_alloc _ _))
  have hlt : w1.heap.size < v1.heap.size := by omega
  have o1 : (v1.alloc (.cells #[] 63)).ownsRow (w1.heap.size + 1) 63 2 (.slice (some ⟨w1.heap.size + 1, 0, none⟩) 0 0) 0 [] := by
    have := World.ownsRow_made (base := w1.heap.size + 1) (e := 63) (size := 2) v1 #[] 0 (by omega) (Nat.zero_le _) rfl
    rw [z1] at this
    exact this
  have o2 := own_made0 (v1.alloc (.cells #[] 63)) (w1.heap.size + 1) 39 (by omega)
  have o3 := own_made0 ((v1.alloc (.cells #[] 63)).alloc (.cells #[] 39)) (w1.heap.size + 1) 39 (by omega)
  rw [z2, z1] at o2
  rw [z3, z1] at o3
  refine ⟨(k1.cell (p := ⟨w1.heap.size, 0, none⟩) hlt).trans a0, (World.frozen?_of_block (w := v1) (k1.block _ hlt)).trans b0, (k1.cell (p := ⟨w1.heap.size, 1, none⟩) hlt).trans a1, (World.frozen?_of_block (w := v1) (k1.block _ hlt)).trans b1,
    by decide +kernel, by decide +kernel, rfl, rfl, rfl, (o1.alloc _).alloc _, o2.alloc _, o3, ?_, ?_, ?_, Below.step k0 k1, Nat.lt_of_lt_of_le hlt k1.size⟩
  · intro g hg hg'
    injection hg with hg; injection hg' with hg'
    have : w1.heap.size + 1 = g := hg
    have : w1.heap.size + 1 + 1 = g := hg'
    omega
  · intro g hg hg'
    injection hg with hg; injection hg' with hg'
    have : w1.heap.size + 1 = g := hg
    have : w1.heap.size + 1 + 1 + 1 = g := hg'
    omega
  · intro g hg hg'
    injection hg with hg; injection hg' with hg'
    have : w1.heap.size + 1 + 1 = g := hg
    have : w1.heap.size + 1 + 1 + 1 = g := hg'
    omega
set_option maxRecDepth 100000 in
set_option maxHeartbeats 4000000 in
theorem turtle_yes (s : ByteArray) (turn step : Nat) (most : Nat) (w : World) (hs : s.size ≤ maxLen) (hw : wordB 4000 s.data.toList = true) (h1 : finB (cn .f32 turn) = true) (h2 : finB (cn .f32 step) = true) :
    Calls Try.prog 24 #[.string s, .float .f32 turn, .float .f32 step, .int .i64 most] w (CTwo w (tL1 (tOut (cn .f32 turn) (cn .f32 step) most s.data.toList)) (tL2 (tOut (cn .f32 turn) (cn .f32 step) most s.data.toList)) (tOut (cn .f32 turn) (cn .f32 step) most s.data.toList).isSome) := by
  obtain ⟨i0, hi0, hz0, hz1, hz2⟩ := info_parts' info.tur
  obtain ⟨j0, hj0, jz0, jz1, jz2⟩ := info_parts' info.c64
  have hs4 : s.size ≤ 4000 := by
    unfold wordB at hw
    rw [Bool.and_eq_true] at hw
    have := of_decide_eq_true hw.1
    have e : s.data.toList.length = s.size := by simp
    omega
  go_enter Try.func24, Try.ntmps24
  go_wp2_with fail
  refine (isWord_any _ _ hs).mono ?_
  rintro e w' ⟨rfl, rfl⟩
  rw [hw]
  go_wp2_with fail
  refine (isFinite_any _ _).mono ?_
  rintro e w' ⟨rfl, n1, rfl⟩
  rw [h1]
  go_wp2_with fail
  refine (isFinite_any _ _).mono ?_
  rintro e w' ⟨rfl, n2, hw1⟩
  obtain ⟨w1, e1⟩ : ∃ w1, w1 = w' := ⟨_, rfl⟩
  rw [← e1] at hw1 ⊢
  have hbw : Below w.heap.size w w1 := by rw [hw1]; exact ⟨rfl, rfl, rfl, Nat.le_refl _, fun _ _ => rfl⟩
  clear hw1 e1 w'
  rw [h2]
  clear h1 h2 hw
  go_wp2_with fail
  have HI : ∃ vk vb ve, TInv w1 t0 vk vb ve 0 0 0 [] [] [] ((((w1.alloc (.cells #[.complex .f32 0 0, .float .f32 0] 63)).alloc (.cells #[] 63)).alloc (.cells #[] 39)).alloc (.cells #[] 39)) ∧ vk = .slice (some ⟨w1.heap.size + 1, 0, none⟩) 0 0 ∧ vb = .slice (some ⟨w1.heap.size + 1 + 1, 0, none⟩) 0 0 ∧ ve = .slice (some ⟨w1.heap.size + 1 + 1 + 1, 0, none⟩) 0 0 := by
    exact ⟨_, _, _, own_start, rfl, rfl, rfl⟩
  obtain ⟨vk, vb, ve, I0, hk0, hb0, he0⟩ := HI
  rw [← hk0, ← hb0, ← he0]
  clear hk0 hb0 he0
  generalize ((((w1.alloc (.cells #[.complex .f32 0 0, .float .f32 0] 63)).alloc (.cells #[] 63)).alloc (.cells #[] 39)).alloc (.cells #[] 39)) = w2 at *
  go_loopw [12, 13, 14, 35] (fun vk vb ve i wr => ∃ (k : Nat) (S : TS) (pa pb t : Nat) (K : List ((Nat × Nat) × Nat)) (P Q : List (Nat × Nat)), k ≤ s.size ∧ i = .int .i64 k ∧ Hid (tRun (cn .f32 turn) (cn .f32 step) (s.data.toList.take k) (some t0) = some S) ∧ TInv w1 S vk vb ve pa pb t K P Q wr) (fun _ _ _ i _ => s.size - (intOf i).toNat)
  case atStart => exact ⟨0, t0, 0, 0, 0, [], [], [], Nat.zero_le _, rfl, Lib.hid rfl, I0⟩
  case round =>
    obtain ⟨k, S, pa, pb, t, K, P, Q, hk, rfl, HR, I⟩ := hrel
    obtain ⟨A, cA, rfl⟩ := own_slice' I.ok
    obtain ⟨B, cB, rfl⟩ := own_slice I.ob
    obtain ⟨E, cE, rfl⟩ := own_slice I.oe
    by_cases hlt : k < s.size
    · have hsk : Hid (s.data.toList.take (k + 1) = s.data.toList.take k ++ [s[k]]) := Lib.hid (take_snoc s k hlt)
      have c0 := I.c0
      have f0 := I.f0
      have c1 := I.c1
      have f1 := I.f1
      obtain ⟨q1, q2, q3⟩ := run_bounds HR.out
      obtain ⟨q4, q5, q6⟩ := I.lens
      have hPl : P.length ≤ k := by omega
      have hQl : Q.length ≤ k := by omega
      have hKl : K.length ≤ k := by omega
      clear q1 q2 q3 q4 q5 q6
      by_cases h70 : (s[k].toNat : Int) = 70
      · have hst : Hid (tStep (cn .f32 turn) (cn .f32 step) s[k] S = some ⟨tAt (cn .f32 step) S, S.now, S.st, S.fr ++ [S.at_], S.to ++ [tAt (cn .f32 step) S]⟩) := Lib.hid (by
          have : s[k] = 70 := UInt8.toNat_inj.1 (by show _ = 70; omega)
          unfold tStep; rw [if_pos (.inl this)])
        have IO := I.ob
        have hgt := I.gt
        go_wp2_with (at_builtin; refine wpList_pushK rfl _ _ 23 rfl (w1.heap.size + 1) 39 j0 (.complex .f32 0 0) 8 Try.underlying23 hj0 jz0 jz1 jz2 rfl _ P.length (P.map cv) rfl IO _ rfl rfl (by unfold maxLen; omega) (by omega) (by omega) ?_)
        intro v3 w3 ho3 kk3 hn3
        have I3 := I.pushB ho3 kk3 hn3
        clear I IO c0 f0 c1 f1 ho3 kk3 hn3 hgt
        have c0 := I3.c0
        have f0 := I3.f0
        have c1 := I3.c1
        have f1 := I3.f1
        go_wp2_with fail
        go_region_with (first
          | (go_at_call 39; refine (phasor_any _ (kd_wide _ _) _).mono ?_; rintro e w5 ⟨a1, b1, m1, rfl, x1, y1, rfl⟩)
          | (go_at_call 48; refine (scale_any _ _ _ _).mono ?_; rintro e w6 ⟨a2, b2, m2, rfl, x2, y2, rfl⟩)
          | (go_at_call 47; refine (add_any _ _ _ _ _).mono ?_; rintro e w7 ⟨a3, b3, m3, rfl, x3, y3, rfl⟩))
        all_goals
          have HAT := Lib.hid (at_eq (S := S) I3.sat I3.snow x1 y1 x2 y2 x3 y3)
          clear x1 y1 x2 y2 x3 y3 c0 f0 c1 f1
          refine (fun (h : ∀ w4, TInv w1 ⟨(cn .f32 a3, cn .f32 b3), S.now, S.st, S.fr ++ [S.at_], S.to⟩ _ _ _ a3 b3 t K _ Q w4 → Exit.then _ _ Exit.normal _ w4) => h _ ((I3.drewN _).setP a3 b3)) ?_
          intro w4 I4
          have c0 := I4.c0
          have f0 := I4.f0
          have IO := I4.oe
          have hgt := I4.gt
          clear I3
          go_wp2_with (at_builtin; refine wpList_pushK rfl _ _ 23 rfl (w1.heap.size + 1) 39 j0 (.complex .f32 0 0) 8 Try.underlying23 hj0 jz0 jz1 jz2 rfl _ Q.length (Q.map cv) rfl IO _ rfl rfl (by unfold maxLen; omega) (by omega) (by omega) ?_)
          intro v5 w5 ho5 kk5 hn5
          have I5 := I4.pushE ho5 kk5 hn5
          clear I4 IO c0 f0 ho5 kk5 hn5 hgt
          go_wp2
          go_roundw
          case rel => exact ⟨k + 1, _, _, _, _, _, _, _, by omega, by go_num, Lib.hid (run_step hsk.out HR.out (by rw [hst.out, ← HAT.out])), I5⟩
          case measure => simp [intOf]; omega
      · skip
        by_cases h71 : (s[k].toNat : Int) = 71
        · have hst : Hid (tStep (cn .f32 turn) (cn .f32 step) s[k] S = some ⟨tAt (cn .f32 step) S, S.now, S.st, S.fr ++ [S.at_], S.to ++ [tAt (cn .f32 step) S]⟩) := Lib.hid (by
            have : s[k] = 71 := UInt8.toNat_inj.1 (by show _ = 71; omega)
            unfold tStep; rw [if_pos (.inr this)])
          have IO := I.ob
          have hgt := I.gt
          go_wp2_with (at_builtin; refine wpList_pushK rfl _ _ 23 rfl (w1.heap.size + 1) 39 j0 (.complex .f32 0 0) 8 Try.underlying23 hj0 jz0 jz1 jz2 rfl _ P.length (P.map cv) rfl IO _ rfl rfl (by unfold maxLen; omega) (by omega) (by omega) ?_)
          intro v3 w3 ho3 kk3 hn3
          have I3 := I.pushB ho3 kk3 hn3
          clear I IO c0 f0 c1 f1 ho3 kk3 hn3 hgt
          have c0 := I3.c0
          have f0 := I3.f0
          have c1 := I3.c1
          have f1 := I3.f1
          go_wp2_with fail
          go_region_with (first
            | (go_at_call 39; refine (phasor_any _ (kd_wide _ _) _).mono ?_; rintro e w5 ⟨a1, b1, m1, rfl, x1, y1, rfl⟩)
            | (go_at_call 48; refine (scale_any _ _ _ _).mono ?_; rintro e w6 ⟨a2, b2, m2, rfl, x2, y2, rfl⟩)
            | (go_at_call 47; refine (add_any _ _ _ _ _).mono ?_; rintro e w7 ⟨a3, b3, m3, rfl, x3, y3, rfl⟩))
          all_goals
            have HAT := Lib.hid (at_eq (S := S) I3.sat I3.snow x1 y1 x2 y2 x3 y3)
            clear x1 y1 x2 y2 x3 y3 c0 f0 c1 f1
            refine (fun (h : ∀ w4, TInv w1 ⟨(cn .f32 a3, cn .f32 b3), S.now, S.st, S.fr ++ [S.at_], S.to⟩ _ _ _ a3 b3 t K _ Q w4 → Exit.then _ _ Exit.normal _ w4) => h _ ((I3.drewN _).setP a3 b3)) ?_
            intro w4 I4
            have c0 := I4.c0
            have f0 := I4.f0
            have IO := I4.oe
            have hgt := I4.gt
            clear I3
            go_wp2_with (at_builtin; refine wpList_pushK rfl _ _ 23 rfl (w1.heap.size + 1) 39 j0 (.complex .f32 0 0) 8 Try.underlying23 hj0 jz0 jz1 jz2 rfl _ Q.length (Q.map cv) rfl IO _ rfl rfl (by unfold maxLen; omega) (by omega) (by omega) ?_)
            intro v5 w5 ho5 kk5 hn5
            have I5 := I4.pushE ho5 kk5 hn5
            clear I4 IO c0 f0 ho5 kk5 hn5 hgt
            go_wp2
            go_roundw
            case rel => exact ⟨k + 1, _, _, _, _, _, _, _, by omega, by go_num, Lib.hid (run_step hsk.out HR.out (by rw [hst.out, ← HAT.out])), I5⟩
            case measure => simp [intOf]; omega
        · skip
          by_cases h43 : (s[k].toNat : Int) = 43
          · have hne : True := by
              trivial
            have h43 : s[k] = 43 := UInt8.toNat_inj.1 (by show _ = 43; omega)
            have hst : Hid (∀ w, tStep (cn .f32 turn) (cn .f32 step) s[k] S = some ⟨S.at_, cn .f32 (fres .add .f32 t turn w), S.st, S.fr, S.to⟩) := Lib.hid (fun w => by
              rw [cn_fres, ← I.snow, h43]
              rfl)
            clear hne h43
            go_wp2
            go_roundw
            case rel => exact ⟨k + 1, _, _, _, _, _, _, _, by omega, by go_num, Lib.hid (run_step hsk.out HR.out (hst.out _)), (I.drewN _).setT _⟩
            case measure => simp [intOf]; omega
          · skip
            by_cases h45 : (s[k].toNat : Int) = 45
            · have hne : True := by
                trivial
              have h43 : s[k] = 45 := UInt8.toNat_inj.1 (by show _ = 45; omega)
              have hst : Hid (∀ w, tStep (cn .f32 turn) (cn .f32 step) s[k] S = some ⟨S.at_, cn .f32 (fres .sub .f32 t turn w), S.st, S.fr, S.to⟩) := Lib.hid (fun w => by
                rw [cn_fres, ← I.snow, h43]
                rfl)
              clear hne h43
              go_wp2
              go_roundw
              case rel => exact ⟨k + 1, _, _, _, _, _, _, _, by omega, by go_num, Lib.hid (run_step hsk.out HR.out (hst.out _)), (I.drewN _).setT _⟩
              case measure => simp [intOf]; omega
            · skip
              by_cases h91 : (s[k].toNat : Int) = 91
              · have h91' : s[k] = 91 := UInt8.toNat_inj.1 (by show _ = 91; omega)
                have hst : Hid (tStep (cn .f32 turn) (cn .f32 step) s[k] S = some ⟨S.at_, S.now, S.st ++ [(S.at_, S.now)], S.fr, S.to⟩) := Lib.hid (by rw [h91']; rfl)
                have IO := I.ok
                have hgt := I.gt
                clear h91'
                go_wp2_with (at_builtin; refine wpList_pushZ (us := [.complex .f32 pa pb, .float .f32 t]) rfl _ _ 64 rfl (w1.heap.size + 1) 63 i0 (.agg #[.complex .f32 0 0, .float .f32 0]) 12 Try.underlying64 hi0 hz0 hz1 hz2 rfl (Nat.zero_lt_succ _) _ K.length (K.flatMap kv) rfl IO _ rfl (by intro u hu; simp at hu; rcases hu with rfl | rfl <;> rfl) (by unfold maxLen; omega) (by omega) (by omega) ?_)
                intro v5 w5 ho5 kk5 hn5
                have I5 := I.pushK ho5 kk5 hn5
                clear I IO c0 f0 c1 f1 ho5 kk5 hn5 hgt
                go_wp2
                go_roundw
                case rel => exact ⟨k + 1, _, _, _, _, _, _, _, by omega, by go_num, Lib.hid (run_step hsk.out HR.out hst.out), I5⟩
                case measure => simp [intOf]; omega
              · skip
                by_cases h93 : (s[k].toNat : Int) = 93
                · have hc : s[k] = 93 := UInt8.toNat_inj.1 (by show _ = 93; omega)
                  rcases List.eq_nil_or_concat K with rfl | ⟨K', x, hK⟩
                  · have hno := Lib.hid (out_none (most := most) hsk.out HR.out (st_none hc I.sst))
                    have hbel := I.bel
                    clear hc
                    go_wp2
                    exact bodyPost_ret (v := .tuple #[.slice none 0 0, .slice none 0 0, .bool false]) (by simp [results, Try.results24, go_sem]) rfl (CTwo.no hno.out (Below.step hbw hbel))
                  · rw [List.concat_eq_append] at hK
                    subst hK
                    have hst := Lib.hid (st_last (turn := cn .f32 turn) (step := cn .f32 step) hc I.sst)
                    have hKn : (K' ++ [x]).length = K'.length + 1 := by simp
                    rw [hKn] at I hKl ⊢
                    obtain ⟨g, rfl, hcA, hg, t0', t1'⟩ := top_cells I
                    clear hc hKn
                    go_wp2
                    go_roundw
                    case rel => exact ⟨k + 1, _, _, _, _, _, _, _, by omega, by go_num, Lib.hid (run_step hsk.out HR.out hst.out), ((I.setP _ _).setT _).popK⟩
                    case measure => simp [intOf]; omega
                · skip
                  have hst : Hid (tStep (cn .f32 turn) (cn .f32 step) s[k] S = some S) := Lib.hid (by
                    have n1 : ¬ s[k] = 70 := fun e => h70 (by rw [e]; rfl)
                    have n2 : ¬ s[k] = 71 := fun e => h71 (by rw [e]; rfl)
                    have n3 : ¬ s[k] = 43 := fun e => h43 (by rw [e]; rfl)
                    have n4 : ¬ s[k] = 45 := fun e => h45 (by rw [e]; rfl)
                    have n5 : ¬ s[k] = 91 := fun e => h91 (by rw [e]; rfl)
                    have n6 : ¬ s[k] = 93 := fun e => h93 (by rw [e]; rfl)
                    unfold tStep
                    simp [n1, n2, n3, n4, n5, n6])
                  go_wp2
                  go_roundw
                  case rel => exact ⟨k + 1, _, _, _, _, _, _, _, by omega, by go_num, Lib.hid (run_step hsk.out HR.out hst.out), I⟩
                  case measure => simp [intOf]; omega
    · obtain rfl : k = s.size := by omega
      obtain ⟨q4, q5, q6⟩ := I.lens
      obtain ⟨q1, q2, q3⟩ := run_bounds HR.out
      have hPl : P.length ≤ 4000 := by omega
      have hQl : Q.length ≤ 4000 := by omega
      have hbel := Below.step hbw I.bel
      have hzz := hbw.size
      have oB := (OwnS.of_own I.ob).less (show w.heap.size ≤ w1.heap.size + 1 by omega)
      have oE := (OwnS.of_own I.oe).less (show w.heap.size ≤ w1.heap.size + 1 by omega)
      have hap : ∀ b, InA B b → ¬ InA E b := fun b ⟨o, h⟩ ⟨o', h'⟩ => I.abe b (by rw [h]; rfl) (by rw [h']; rfl)
      have e1 : finQ S.fr = finCL P := by rw [I.sfr, finQ_cp]
      have e2 : finQ S.to = finCL Q := by rw [I.sto, finQ_cp]
      have HP : Hid (cp P = S.fr) := Lib.hid I.sfr.symm
      have HQ : Hid (cp Q = S.to) := Lib.hid I.sto.symm
      by_cases hK : 0 < K.length
      · have hno := Lib.hid (out_bad (most := most) HR.out (fun h => by omega))
        clear q1 q2 q3 q4 q5 q6 e1 e2 I
        go_wp2
        exact bodyPost_ret (v := .tuple #[.slice none 0 0, .slice none 0 0, .bool false]) (by simp [results, Try.results24, go_sem]) rfl (CTwo.no hno.out hbel)
      · have hK0 : K.length = 0 := by omega
        by_cases hQ : most < Q.length
        · have hno := Lib.hid (out_bad (most := most) HR.out (fun h => by omega))
          clear q1 q2 q3 q4 q5 q6 e1 e2 I
          go_wp2
          exact bodyPost_ret (v := .tuple #[.slice none 0 0, .slice none 0 0, .bool false]) (by simp [results, Try.results24, go_sem]) rfl (CTwo.no hno.out hbel)
        · cases hf1 : finCL P
          · have hno := Lib.hid (out_bad (most := most) HR.out (fun h => by rw [e1, hf1] at h; exact absurd h.2.2.1 (by decide)))
            clear q1 q2 q3 q4 q5 q6 e1 e2 I
            go_wp2_with fail
            refine (areFinC_any _ _ P _ oB.1 (by unfold maxLen; omega)).mono ?_
            rintro e w' ⟨rfl, n3, rfl⟩
            rw [hf1]
            go_wp2
            exact bodyPost_ret (v := .tuple #[.slice none 0 0, .slice none 0 0, .bool false]) (by simp [results, Try.results24, go_sem]) rfl (CTwo.no hno.out (below_drawN hbel _))
          · cases hf2 : finCL Q
            · have hno := Lib.hid (out_bad (most := most) HR.out (fun h => by rw [e2, hf2] at h; exact absurd h.2.2.2 (by decide)))
              clear q1 q2 q3 q4 q5 q6 e1 e2 I
              go_wp2_with fail
              refine (areFinC_any _ _ P _ oB.1 (by unfold maxLen; omega)).mono ?_
              rintro e w' ⟨rfl, n3, rfl⟩
              rw [hf1]
              go_wp2_with fail
              refine (areFinC_any _ _ Q _ (Rd.drewN oE.1 n3) (by unfold maxLen; omega)).mono ?_
              rintro e w' ⟨rfl, n4, rfl⟩
              rw [hf2]
              go_wp2
              exact bodyPost_ret (v := .tuple #[.slice none 0 0, .slice none 0 0, .bool false]) (by simp [results, Try.results24, go_sem]) rfl (CTwo.no hno.out (below_drawN hbel _))
            · have hyes := Lib.hid (out_good (most := most) HR.out ⟨by omega, by omega, by rw [e1]; exact hf1, by rw [e2]; exact hf2⟩)
              clear q1 q2 q3 q4 q5 q6 e1 e2 I
              go_wp2_with fail
              refine (areFinC_any _ _ P _ oB.1 (by unfold maxLen; omega)).mono ?_
              rintro e w' ⟨rfl, n3, rfl⟩
              rw [hf1]
              go_wp2_with fail
              refine (areFinC_any _ _ Q _ (Rd.drewN oE.1 n3) (by unfold maxLen; omega)).mono ?_
              rintro e w' ⟨rfl, n4, rfl⟩
              rw [hf2]
              go_wp2
              exact bodyPost_ret (v := .tuple #[.slice B P.length cB, .slice E Q.length cE, .bool true]) (by simp [results, Try.results24, go_sem]) rfl (CTwo.yes hyes.out oB oE hap HP.out HQ.out (below_drawN hbel _))
/-- The whole answer. -/
def tAll (s : ByteArray) (turn step most : Nat) : Option (List (Nat × Nat) × List (Nat × Nat)) := if wordB 4000 s.data.toList && finB (cn .f32 turn) && finB (cn .f32 step) then tOut (cn .f32 turn) (cn .f32 step) most s.data.toList else none
theorem tAll_yes {s : ByteArray} {turn step most : Nat} (hw : wordB 4000 s.data.toList = true) (h1 : finB (cn .f32 turn) = true) (h2 : finB (cn .f32 step) = true) : tAll s turn step most = tOut (cn .f32 turn) (cn .f32 step) most s.data.toList := by unfold tAll; rw [hw, h1, h2]; rfl
theorem tAll_no {s : ByteArray} {turn step most : Nat} (h : ¬ (wordB 4000 s.data.toList = true ∧ finB (cn .f32 turn) = true ∧ finB (cn .f32 step) = true)) : tAll s turn step most = none := by
  unfold tAll
  rw [if_neg]
  simpa [and_assoc] using h
set_option maxRecDepth 100000 in
set_option maxHeartbeats 1000000 in
theorem turtle_any (s : ByteArray) (turn step most : Nat) (w : World) (hs : s.size ≤ maxLen) :
    Calls Try.prog 24 #[.string s, .float .f32 turn, .float .f32 step, .int .i64 most] w (CTwo w (tL1 (tAll s turn step most)) (tL2 (tAll s turn step most)) (tAll s turn step most).isSome) := by
  cases hw : wordB 4000 s.data.toList
  · have hno := Lib.hid (tAll_no (turn := turn) (step := step) (most := most) (fun h => by rw [hw] at h; exact absurd h.1 (by decide)))
    go_enter Try.func24, Try.ntmps24
    go_wp2_with fail
    refine (isWord_any _ _ hs).mono ?_
    rintro e w' ⟨rfl, rfl⟩
    rw [hw]
    go_wp2
    exact bodyPost_ret (v := .tuple #[.slice none 0 0, .slice none 0 0, .bool false]) (by simp [results, Try.results24, go_sem]) rfl (CTwo.no hno.out (Below.refl _ _))
  · cases h1 : finB (cn .f32 turn)
    · have hno := Lib.hid (tAll_no (s := s) (turn := turn) (step := step) (most := most) (fun h => by rw [h1] at h; exact absurd h.2.1 (by decide)))
      go_enter Try.func24, Try.ntmps24
      go_wp2_with fail
      refine (isWord_any _ _ hs).mono ?_
      rintro e w' ⟨rfl, rfl⟩
      rw [hw]
      go_wp2_with fail
      refine (isFinite_any _ _).mono ?_
      rintro e w' ⟨rfl, n1, rfl⟩
      rw [h1]
      go_wp2
      exact bodyPost_ret (v := .tuple #[.slice none 0 0, .slice none 0 0, .bool false]) (by simp [results, Try.results24, go_sem]) rfl (CTwo.no hno.out (below_drawN (Below.refl _ _) _))
    · cases h2 : finB (cn .f32 step)
      · have hno := Lib.hid (tAll_no (s := s) (turn := turn) (step := step) (most := most) (fun h => by rw [h2] at h; exact absurd h.2.2 (by decide)))
        go_enter Try.func24, Try.ntmps24
        go_wp2_with fail
        refine (isWord_any _ _ hs).mono ?_
        rintro e w' ⟨rfl, rfl⟩
        rw [hw]
        go_wp2_with fail
        refine (isFinite_any _ _).mono ?_
        rintro e w' ⟨rfl, n1, rfl⟩
        rw [h1]
        go_wp2_with fail
        refine (isFinite_any _ _).mono ?_
        rintro e w' ⟨rfl, n2, rfl⟩
        rw [h2]
        go_wp2
        exact bodyPost_ret (v := .tuple #[.slice none 0 0, .slice none 0 0, .bool false]) (by simp [results, Try.results24, go_sem]) rfl (CTwo.no hno.out (below_drawN (Below.refl _ _) _))
      · rw [tAll_yes hw h1 h2]
        exact turtle_yes s turn step most w hs hw h1 h2
theorem twigs_any (s : ByteArray) (turn step : Nat) (w : World) (hs : s.size ≤ maxLen) :
    Calls Try.prog 7 #[.string s, .float .f32 turn, .float .f32 step] w (CTwo w (tL1 (tAll s turn step 256)) (tL2 (tAll s turn step 256)) (tAll s turn step 256).isSome) := by
  have H := turtle_any s turn step 256 w hs
  rw [show ((256 : Nat) : Int) = 256 from rfl] at H
  have HH := Lib.hid H
  clear H
  go_enter Try.func7, Try.ntmps7
  go_wp2_with fail
  refine HH.out.mono ?_
  rintro e w' ⟨A, c, P, A', c', Q, rfl, h⟩
  go_wp2
  exact bodyPost_ret (v := .tuple #[.slice A P.length c, .slice A' Q.length c', .bool (tAll s turn step 256).isSome]) (by simp [results, Try.results7, go_sem]) rfl ⟨A, c, P, A', c', Q, rfl, h⟩
end Go.Proofs.Yteolemgilajaeaa
