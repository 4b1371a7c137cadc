/- grouped: the groups of cells of a grid. -/
import Derived.Test.YtcdipgkdbannmaaRepI
import Derived.Test.YtcdipgkdbannmaaMa
import Derived.Deep.LoopGhost
namespace Go.Proofs.Ytcdipgkdbannmaa
open Go.RowKit

/-- Which cells bear a group. -/
def mk (os : List Int) : List Bool := os.map fun z => decide (0 ≤ z)
theorem mk_len (os : List Int) : (mk os).length = os.length := by simp [mk]
theorem at_mk {os : List Int} {k : Nat} (h : k < os.length) : at? (mk os) k = decide (0 ≤ os[k]) := by simp [at?, mk, h]
theorem mk_set {os : List Int} {k : Nat} {g : Int} (hg : 0 ≤ g) : mk (os.set k g) = (mk os).set k true := by
  unfold mk; rw [List.map_set]; congr 1; exact decide_eq_true hg
theorem mk_start (M : Nat) : mk (List.replicate M (-1)) = List.replicate M false := by simp [mk]
/-- A slice of the call's own without its last element. -/
theorem own_pop {w : World} {base n c : Nat} {e : TypeId} {A : Option Addr} {xs : List Value} {u : Value} (h : w.ownsRow base e 1 (.slice A (n + 1) c) (n + 1) (xs ++ [u])) : w.ownsRow base e 1 (.slice A n c) n xs := by
  have hl := h.1
  simp at hl
  refine ⟨by omega, ?_⟩
  rcases h.2 with ⟨hv, hn⟩ | ⟨g, cap, cur, hv, hg, hh, hc, hm, hs, ht⟩
  · omega
  · injection hv with e1 e2 e3
    obtain rfl : cap = c := e3.symm
    have ht' : cur.toList.take (n + 1) = xs ++ [u] := by rw [Nat.mul_one] at ht; exact ht
    refine .inr ⟨g, cap, cur, by rw [e1], hg, hh, by omega, hm, hs, ?_⟩
    have h2 : cur.toList.take n = (cur.toList.take (n + 1)).take n := by rw [List.take_take, Nat.min_eq_left (by omega)]
    rw [Nat.mul_one, h2, ht', List.take_append_of_le_length (by omega), List.take_of_length_le (by omega)]
theorem own_keepG {w w' : World} {base : Nat} {e : TypeId} {size : Nat} {v : Value} {n : Nat} {xs : List Value} {S : Nat → Prop} (h : w.ownsRow base e size v n xs) (k : Keep S w w') (hs : ∀ g, v.ownBlock = some g → ¬ S g) : w'.ownsRow base e size v n xs := by
  refine ⟨h.1, ?_⟩
  rcases h.2 with h2 | ⟨g, cap, cur, hv, hg, hh, hr⟩
  · exact .inl h2
  · refine .inr ⟨g, cap, cur, hv, hg, ?_, hr⟩
    have hlt : g < w.heap.size := by
      rcases Nat.lt_or_ge g w.heap.size with hlt | hge
      · exact hlt
      · rw [Array.getElem?_eq_none hge] at hh; cases hh
    rw [k.block g hlt (hs g (by rw [hv]; rfl))]
    exact hh
theorem own_setG {B : Nat} {w : World} {b o k : Nat} {xs : List Value} {v : Value} (h : OwnS B w (some ⟨b, o, none⟩) xs) (hk : k < xs.length) : OwnS B (w.setCell ⟨b, o + k, none⟩ v) (some ⟨b, o, none⟩) (xs.set k v) := by
  refine ⟨fun i u hi => ?_, ?_, fun b' hb' => ⟨(h.2.2 b' hb').1, by simpa [World.setCell] using (h.2.2 b' hb').2⟩⟩
  · have hlt := (List.getElem?_eq_some_iff.1 hi).1
    rw [List.length_set] at hlt
    obtain ⟨b1, o1, e1, hb1, hc1⟩ := h.1 i xs[i] (List.getElem?_eq_getElem hlt)
    injection e1 with e1
    injection e1 with e2 e3
    subst e2; subst e3
    refine ⟨b, o, rfl, by simpa [World.setCell] using hb1, ?_⟩
    by_cases e : i = k
    · subst e
      rw [List.getElem?_set_self hlt] at hi
      injection hi with hi
      subst hi
      exact World.cell?_setCell_same _ _ _ hc1
    · rw [List.getElem?_set_ne (fun h => e h.symm)] at hi
      rw [List.getElem?_eq_getElem hlt] at hi
      injection hi with hi
      rw [← hi]
      exact (World.cell?_setCell_other _ _ _ _ (by intro h; injection h with h1 h2; exact e (by omega))).trans hc1
  · rw [List.length_set]
    exact h.2.1.set _ _
theorem own_one (w : World) (e : TypeId) (u : Value) : (w.alloc (.cells #[u] e)).ownsRow w.heap.size e 1 (.slice (some ⟨w.heap.size, 0, none⟩) 1 1) 1 [u] :=
  ⟨rfl, .inr ⟨w.heap.size, 1, #[u], rfl, Nat.le_refl _, heap_alloc_new w _, Nat.le_refl _, by decide, rfl, rfl⟩⟩
theorem own_some {w : World} {base n c : Nat} {e : TypeId} {A : Option Addr} {xs : List Value} (h : w.ownsRow base e 1 (.slice A n c) n xs) (hn : 0 < n) : ∃ g, A = some ⟨g, 0, none⟩ ∧ base ≤ g ∧ g < w.heap.size := by
  rcases h.2 with ⟨_, h2⟩ | ⟨g, cap, cur, hv, hg, hh, _⟩
  · omega
  · injection hv with e1
    subst e1
    exact ⟨g, rfl, h.lt g rfl⟩
theorem own_cap {w : World} {base n c : Nat} {e : TypeId} {A : Option Addr} {xs : List Value} (h : w.ownsRow base e 1 (.slice A n c) n xs) : n ≤ c := by
  rcases h.2 with ⟨hv, h2⟩ | ⟨g, cap, cur, hv, hg, hh, hc, _⟩
  · omega
  · injection hv with e1 e2 e3
    omega
theorem own_set {w : World} {base n c g j : Nat} {e : TypeId} {xs : List Value} {u : Value} (h : w.ownsRow base e 1 (.slice (some ⟨g, 0, none⟩) n c) n xs) : (w.setCell ⟨g, j, none⟩ u).ownsRow base e 1 (.slice (some ⟨g, 0, none⟩) n c) n (xs.set j u) := (h.stored j u).1
theorem set_last (l : List Nat) (a b : Nat) : ((l ++ [a]).map iv).set l.length (.int .i64 (b : Nat)) = (l ++ [b]).map iv := by
  rw [List.map_append, List.map_append, List.set_append_right _ _ (by simp)]
  simp [iv]
def GrR (w : World) (W H : Nat) (f : Nat → Bool) (M : Nat) (e : Ending) (w' : World) : Prop :=
  ∃ A1 c1 A2 c2, ∃ (S : List Bool) (cs : List Nat), e = .returned (.tuple #[.slice A1 M c1, .slice A2 cs.length c2]) ∧ Isl (nbL W H) f M M S cs ∧ OwnS w.heap.size w' A2 (cs.map iv) ∧ Below w.heap.size w w'
set_option maxRecDepth 100000 in
set_option maxHeartbeats 4000000 in
theorem grouped_any (W H : Nat) (K : FuncId) (cap : Array Value) (f : Nat → Bool) (w : World) (hW : 1 ≤ W ∧ W ≤ 17) (hH : 1 ≤ H ∧ H ≤ 17)
    (hstep : ∀ i wr, i < W * H → Below w.heap.size w wr → Calls Try.prog K (#[.int .i64 (i : Nat)] ++ cap) wr fun e w' => e = .returned (.bool (f i)) ∧ ∃ n, w' = wr.drewN n)
    (hen : ∀ args w, (callFunc K args).run Try.prog w = .ok (.enter K args) w) :
    Calls Try.prog 52 #[.int .i64 W, .int .i64 H, .func (.func K) #[] cap] w (GrR w W H f (W * H)) := by
  obtain ⟨i0, hi0, hz0', hz1, hz2⟩ := info_parts info.i64
  obtain ⟨W1, W2⟩ := hW
  obtain ⟨H1, H2⟩ := hH
  have hm : W * H ≤ 289 := Nat.le_trans (Nat.mul_le_mul W2 H2) (by decide)
  have hm0 : 0 < W * H := Nat.mul_pos W1 H1
  have hmN : (W : Int) * H = ((W * H : Nat) : Int) := by push_cast; rfl
  obtain ⟨M, hM⟩ : ∃ M, M = W * H := ⟨_, rfl⟩
  have HM := Lib.hid hM
  rw [← hM] at hm hm0 hmN hstep
  rw [← hM]
  clear hM
  have HS := Lib.hid hstep
  clear hstep
  obtain ⟨w0, hw0⟩ : ∃ w0, w0 = w.alloc (.cells #[.int .i64 (-1)] 2) := ⟨_, rfl⟩
  have k0 : Below w.heap.size w w0 := by rw [hw0]; exact below_alloc _ _
  have z0 : w0.heap.size = w.heap.size + 1 := by rw [hw0]; simp
  have hA0 : Rd w0 (some ⟨w.heap.size, 0, none⟩) [jv (-1)] := by
    rw [hw0]
    intro j u hu
    match j, hu with
    | 0, hu =>
      obtain rfl : jv (-1) = u := by simpa using hu
      exact ⟨w.heap.size, 0, rfl, by simp, by simp [jv]⟩
    | j + 1, hu => simp at hu
  go_enter Try.func52, Try.ntmps52
  go_wp2_with fail
  rw [← hw0]
  clear hw0
  refine (repeat_any (-1) M 1 (some ⟨w.heap.size, 0, none⟩) w0 hA0 hm hm0).mono ?_
  rintro e w1 ⟨B, cB, rfl, oB, k1⟩
  have hB : ∀ b, InA B b → w0.heap.size ≤ b ∧ b < w1.heap.size := oB.2.2
  have K1 := Below.step k0 k1
  have z1 := k1.size
  have hwz : Hid (w.heap.size ≤ w1.heap.size) := Lib.hid K1.size
  have hwz0 : Hid (w.heap.size ≤ w0.heap.size) := Lib.hid (by omega)
  clear k0 k1 hA0
  go_wp2_with fail
  obtain ⟨wA, hwA⟩ : ∃ wA, wA = w1.alloc (.cells #[] 2) := ⟨_, rfl⟩
  have kA : Below w1.heap.size w1 wA := by rw [hwA]; exact below_alloc _ _
  have oC : wA.ownsRow w1.heap.size 2 1 (.slice (some ⟨w1.heap.size, 0, none⟩) 0 0) 0 [] := by rw [hwA]; exact own_made0 w1 w1.heap.size 2 (Nat.le_refl _)
  rw [← hwA]
  clear hwA
  have oB := oB.below kA
  have K1 := Below.step K1 kA
  clear kA hmN
  go_loopw [9, 25] (fun cv kv wr => ∃ (k : Nat) (os : List Int) (cs : List Nat), k ≤ M ∧ kv = .int .i64 k ∧ os.length = M ∧ OwnS w0.heap.size wr B (os.map jv) ∧ wr.ownsRow w1.heap.size 2 1 cv cs.length (cs.map iv) ∧ Below w.heap.size w wr ∧ w1.heap.size ≤ wr.heap.size ∧ cs.length ≤ k ∧ Hid (Isl (nbL W H) f M k (mk os) cs)) (fun _ kv _ => M - (intOf kv).toNat)
  case atStart => exact ⟨0, List.replicate M (-1), [], Nat.zero_le _, rfl, by simp, oB, oC, K1, by have := own_lt oC w1.heap.size ⟨0, rfl⟩; omega, Nat.le_refl _, Lib.hid (by rw [mk_start]; exact .zero)⟩
  case round =>
    clear oB oC K1
    obtain ⟨k, os, cs, hk, rfl, hol, oB, oC, KR, hzr, hck, HI⟩ := hrel
    by_cases hlt : k < M
    · have hki : (k : Int) < M := by omega
      obtain ⟨b0, ob0, rfl, hb0, hcell⟩ := oB.1 k (jv (os[k]'(by omega))) (by simp [show k < os.length by omega])
      obtain ⟨z, hz⟩ : ∃ z, z = os[k]'(by omega) := ⟨_, rfl⟩
      rw [← hz] at hcell
      have HZ := Lib.hid hz
      clear hz
      rw [show jv z = .int .i64 z from rfl] at hcell
      cases hf : f k
      · have HF := Lib.hid hf
        clear hf
        go_wp2_with fail
        refine (HS.out k wr hlt KR).mono ?_
        rintro e w4 ⟨rfl, n4, rfl⟩
        rw [HF.out]
        go_wp2
        refine ⟨⟨k + 1, os, cs, by omega, by go_num, hol, oB.drewN _, by exact oC, below_drewN KR _, by exact hzr, by omega, Lib.hid (.skip HI.out (.inl HF.out))⟩, ?_⟩
        simp [intOf]
        omega
      · have HF := Lib.hid hf
        clear hf
        by_cases hz0 : 0 ≤ z
        · go_wp2_with fail
          refine (HS.out k wr hlt KR).mono ?_
          rintro e w4 ⟨rfl, n4, rfl⟩
          rw [HF.out]
          go_wp2
          refine ⟨⟨k + 1, os, cs, by omega, by go_num, hol, oB.drewN _, by exact oC, below_drewN KR _, by exact hzr, by omega, Lib.hid (.skip HI.out (.inr (by rw [at_mk (by omega), ← HZ.out]; exact decide_eq_true hz0)))⟩, ?_⟩
          simp [intOf]
          omega
        · have HU : Hid (at? (mk os) k = false) := Lib.hid (by rw [at_mk (by omega), ← HZ.out]; exact decide_eq_false hz0)
          obtain ⟨fB, hfB⟩ : wr.frozen? ⟨b0, ob0 + k, none⟩ = false ∧ True := by
            obtain ⟨b', o', e', _, _, hfz⟩ := oB.2.1 k (by simp; omega)
            injection e' with e'
            injection e' with e1 e2
            subst e1; subst e2
            exact ⟨hfz, trivial⟩
          obtain ⟨A0, c0, hcv⟩ := own_slice oC
          subst hcv
          go_wp2_with fail
          refine (HS.out k wr hlt KR).mono ?_
          rintro e w4 ⟨rfl, n4, hw4⟩
          rw [HF.out]
          have hcell : w4.cell? ⟨b0, ob0 + k, none⟩ = some (.int .i64 z) := by rw [hw4]; exact hcell
          have fB : w4.frozen? ⟨b0, ob0 + k, none⟩ = false := by rw [hw4]; exact fB
          have oB : OwnS w0.heap.size w4 (some ⟨b0, ob0, none⟩) (os.map jv) := by rw [hw4]; exact oB.drewN _
          have oC : w4.ownsRow w1.heap.size 2 1 (.slice A0 cs.length c0) cs.length (cs.map iv) := by rw [hw4]; exact oC
          have KR : Below w.heap.size w w4 := by rw [hw4]; exact below_drewN KR _
          have hzr : w1.heap.size ≤ w4.heap.size := by rw [hw4]; exact hzr
          have hb0 : b0 < w4.heap.size := by rw [hw4]; exact hb0
          clear hw4
          have hB0 : w0.heap.size ≤ b0 ∧ b0 < w1.heap.size := hB b0 ⟨ob0, rfl⟩
          go_wp2_with (at_builtin; refine wpList_pushK rfl _ _ 71 rfl w1.heap.size 2 i0 (.int .i64 0) 8 Try.underlying71 hi0 hz0' hz1 hz2 rfl _ cs.length (cs.map iv) rfl oC _ rfl rfl (by unfold maxLen; omega) (by omega) hzr ?_)
          intro v5 w5 ho5 kk5 _
          obtain ⟨A5, c5, hv5⟩ := own_slice ho5
          subst hv5
          have S1 : ∀ g, (Value.slice A0 cs.length c0).ownBlock = some g → w1.heap.size ≤ g := fun g h => (oC.lt g h).1
          have oB5 : OwnS w0.heap.size w5 (some ⟨b0, ob0, none⟩) (os.map jv) := oB.keep kk5 (fun b hb e => by have := S1 b e; have := (hB b hb).2; omega)
          have cB5 := (kk5.cell (p := ⟨b0, ob0 + k, none⟩) hb0 (fun e => by have := S1 b0 e; omega)).trans hcell
          have fB5 : w5.frozen? ⟨b0, ob0 + k, none⟩ = false := (World.frozen?_of_block (w := w4) (kk5.block b0 hb0 (fun e => by have := S1 b0 e; omega))).trans fB
          have KR5 : Below w.heap.size w w5 := Keep.below KR kk5 (by have := KR.size; omega) (fun g h => by have := S1 g h; omega)
          have hz5 := kk5.size
          have hz51 : w1.heap.size ≤ w5.heap.size := Nat.le_trans hzr hz5
          have hA5lt : ∀ g, InA A5 g → g < w5.heap.size := own_lt ho5
          have hmk : mk (os.set k (cs.length : Int)) = (mk os).set k true := mk_set (by omega)
          have HFL : Hid (FlM (nbL W H) f (mk os) k (mk (os.set k (cs.length : Int))) [k] 0 0 []) := Lib.hid (by rw [hmk]; exact FlM.start (by rw [mk_len]; omega) HU.out)
          have HZ0 := Lib.hid hz0
          clear hmk oB oC hcell fB kk5 KR HU hz0
          have ho5' : w5.ownsRow w1.heap.size 2 1 (.slice A5 (cs.length + 1) c5) (cs.length + 1) ((cs ++ [0]).map iv) := by rw [List.map_append]; exact ho5
          clear ho5
          go_wp2_with fail
          obtain ⟨w6, hw6⟩ : ∃ w6, w6 = w5.setCell ⟨b0, ob0 + k, none⟩ (.int .i64 cs.length) := ⟨_, rfl⟩
          have k56 : Keep (fun b => b = b0) w5 w6 := by rw [hw6]; exact (Keep.refl (fun b => b = b0) _).setCell (.inl rfl) _
          have oB6 : OwnS w0.heap.size w6 (some ⟨b0, ob0, none⟩) ((os.set k (cs.length : Int)).map jv) := by rw [hw6, List.map_set]; exact own_setG oB5 (by simp; omega)
          have oC6 := own_keepG ho5' k56 (fun g h e => by have := (ho5'.lt g h).1; omega)
          have KR6 : Below w.heap.size w w6 := Keep.below KR5 k56 (by omega) (fun g h => by rw [h]; omega)
          have hz6 : w6.heap.size = w5.heap.size := by rw [hw6]; simp [World.setCell]
          have oN := own_one w6 2 (.int .i64 k)
          have k67 := below_alloc w6 (.cells #[.int .i64 k] 2)
          have hz7 : (w6.alloc (.cells #[.int .i64 k] 2)).heap.size = w6.heap.size + 1 := World.size_alloc _ _
          rw [← hw6]
          rw [hz6] at oN
          generalize hw7 : w6.alloc (.cells #[.int .i64 k] 2) = w7 at oN k67 hz7
          have oB7 := oB6.below k67
          have oC7 := own_keepG oC6 (Keep.of_below (S := fun _ => False) k67) (fun _ _ h => h)
          have KR7 := Below.step KR6 k67
          clear hw7 hw6 k56 oB5 ho5' KR5 oB6 oC6 KR6 k67 cB5 fB5
          go_wp2_with fail
          have zc : (cs.length : Int) ≤ 289 := by omega
          have hosl : (os.set k (cs.length : Int)).length = M := by rw [List.length_set]; exact hol
          have HCI := Lib.hid HI.out.closed
          go_loopg [12] M (fun gk ov wr => ∃ (c q0 : Nat) (os' : List Int) (op : List Nat), M ≤ c + gk ∧ os'.length = M ∧ OwnS w0.heap.size wr (some ⟨b0, ob0, none⟩) (os'.map jv) ∧ wr.ownsRow w1.heap.size 2 1 (.slice A5 (cs.length + 1) c5) (cs.length + 1) ((cs ++ [c]).map iv) ∧ wr.ownsRow w5.heap.size 2 1 ov op.length (op.map iv) ∧ Below w.heap.size w wr ∧ w7.heap.size ≤ wr.heap.size ∧ Hid (FlM (nbL W H) f (mk os) k (mk os') op c q0 []))
          case atStart => exact ⟨0, 0, os.set k (cs.length : Int), [k], by omega, hosl, oB7, oC7, oN, KR7, Nat.le_refl _, HFL⟩
          case round =>
            clear oB7 oC7 oN KR7 HFL hosl hz5
            obtain ⟨c, q0, os', op, hgk, hol', oB, oC, oO, KR, hzr', HFL⟩ := hrel
            have hcnt : c + op.length ≤ M := by
              have h1 := HFL.out.cnt
              have h2 := cntT_le (mk os')
              rw [mk_len] at h2
              omega
            have hlo : w7.heap.size ≤ wr.heap.size := hzr'
            by_cases hop : op = []
            · subst hop
              obtain ⟨hcm, hcc, hcl⟩ := HFL.out.done HCI.out
              have HN : Hid (Isl (nbL W H) f M (k + 1) (mk os') (cs ++ [c])) := Lib.hid (.take HI.out HF.out (by rw [at_mk (by omega), ← HZ.out]; exact decide_eq_false (by have := HZ0.out; omega)) hcm hcc hcl)
              clear hcm hcc hcl
              obtain ⟨Ao, co, hov⟩ := own_slice oO
              subst hov
              have oC' : wr.ownsRow w1.heap.size 2 1 (.slice A5 (cs.length + 1) c5) (cs ++ [c]).length ((cs ++ [c]).map iv) := by rw [List.length_append]; exact oC
              clear oC
              go_wp2
              refine ⟨⟨k + 1, os', cs ++ [c], by omega, by go_num, hol', oB, oC', KR, by omega, by simp; omega, HN⟩, ?_⟩
              simp [intOf]
              omega
            · obtain ⟨p, q, hpq⟩ : ∃ p q, op = p ++ [q] := ⟨op.dropLast, op.getLast hop, (List.dropLast_concat_getLast hop).symm⟩
              subst hpq
              have hlp : (p ++ [q]).length = p.length + 1 := by simp
              rw [hlp] at oO hcnt
              have hqM : q < M := by
                have h1 := (HFL.out.own q (.inl (by simp))).1
                have h2 := at_lt h1
                rw [mk_len] at h2
                omega
              obtain ⟨Ao, co, hov⟩ := own_slice oO
              subst hov
              obtain ⟨go, hAo, hgo1, hgo2⟩ := own_some oO (by omega)
              subst hAo
              obtain ⟨gc, hAc, hgc1, hgc2⟩ := own_some oC (by omega)
              subst hAc
              have cO : wr.cell? ⟨go, p.length, none⟩ = some (.int .i64 q) := by rw [oO.cellAt p.length (by omega)]; simp [iv]
              have cC : wr.cell? ⟨gc, cs.length, none⟩ = some (.int .i64 c) := by rw [oC.cellAt cs.length (by omega)]; simp [iv]
              have fC : wr.frozen? ⟨gc, cs.length, none⟩ = false := oC.frozenAt _
              have oP : wr.ownsRow w5.heap.size 2 1 (.slice (some ⟨go, 0, none⟩) p.length co) p.length (p.map iv) := own_pop (u := iv q) (by rw [List.map_append] at oO; exact oO)
              have hpc : (p.length : Int) ≤ co := by have := own_cap oO; omega
              have hgc3 := hA5lt gc ⟨0, rfl⟩
              have hgg : go ≠ gc := by omega
              clear oO
              go_wp2_with fail
              obtain ⟨w8, hw8⟩ : ∃ w8, w8 = wr.setCell ⟨gc, cs.length, none⟩ (.int .i64 ((c : Int) + 1)) := ⟨_, rfl⟩
              have k8 : Keep (fun b => b = gc) wr w8 := by rw [hw8]; exact (Keep.refl (fun b => b = gc) _).setCell (.inl rfl) _
              have oC8 : w8.ownsRow w1.heap.size 2 1 (.slice (some ⟨gc, 0, none⟩) (cs.length + 1) c5) (cs.length + 1) ((cs ++ [c + 1]).map iv) := by rw [hw8, ← set_last cs c (c + 1)]; push_cast; exact own_set oC
              have oP8 := own_keepG oP k8 (fun g h e => by have h : go = g := (by injection h); have e : g = gc := e; omega)
              have oB8 := oB.keep k8 (fun b hb e => by obtain ⟨o, ho⟩ := hb; injection ho with ho; injection ho with h1 h2; have e : b = gc := e; omega)
              have KR8 : Below w.heap.size w w8 := Keep.below KR k8 (by have := KR.size; omega) (fun g h => by have h : g = gc := h; have := KR.size; have := hgc1; have := hwz.out; omega)
              have hz8 : w8.heap.size = wr.heap.size := by rw [hw8]; simp [World.setCell]
              rw [← hw8]
              clear hw8 k8 oC oP oB KR cO cC fC
              refine (neighbours_any W H q w8 ⟨W1, W2⟩ ⟨H1, H2⟩ (by rw [← HM.out]; exact hqM)).mono ?_
              rintro e w9 ⟨An, cn, rfl, oN, k9⟩
              have hnb : ∀ b, InA An b → w8.heap.size ≤ b ∧ b < w9.heap.size := oN.2.2
              have oC9 := own_keepG oC8 (Keep.of_below (S := fun _ => False) k9) (fun _ _ h => h)
              have oP9 := own_keepG oP8 (Keep.of_below (S := fun _ => False) k9) (fun _ _ h => h)
              have oB9 := oB8.below k9
              have KR9 := Below.step KR8 k9
              have hz9 := k9.size
              have rN9 := oN.1
              have HNB : Hid (FlM (nbL W H) f (mk os) k (mk os') p (c + 1) q (nbL W H q)) := Lib.hid (HFL.out.pop (by simp) (fun x hx => by rw [List.mem_append] at hx; rcases hx with h | h; exact .inr h; exact .inl (by simpa using h)) (fun x hx => List.mem_append_left _ hx) hlp)
              clear oC8 oP8 oB8 KR8 k9 oN HFL
              have hln := nbL_len W H q
              obtain ⟨nl, hnl⟩ : ∃ nl, nl = nbL W H q := ⟨_, rfl⟩
              rw [← hnl] at rN9 HNB hln
              rw [← hnl]
              have hnM : ∀ x ∈ nl, x < M := fun x hx => by rw [HM.out]; rw [hnl] at hx; exact nbL_lt (by rw [← HM.out]; exact hqM) hx
              have HNM := Lib.hid hnM
              clear hnM hnl
              go_wp2_with fail
              go_loopw [12, 75] (fun ov jw wr => ∃ (j : Nat) (os' : List Int) (op : List Nat), j ≤ nl.length ∧ jw = .int .i64 j ∧ os'.length = M ∧ OwnS w0.heap.size wr (some ⟨b0, ob0, none⟩) (os'.map jv) ∧ wr.ownsRow w1.heap.size 2 1 (.slice (some ⟨gc, 0, none⟩) (cs.length + 1) c5) (cs.length + 1) ((cs ++ [c + 1]).map iv) ∧ wr.ownsRow w5.heap.size 2 1 ov op.length (op.map iv) ∧ (∀ g, ov.ownBlock = some g → ¬ InA An g) ∧ Rd wr An (nl.map iv) ∧ Below w.heap.size w wr ∧ w9.heap.size ≤ wr.heap.size ∧ Hid (FlM (nbL W H) f (mk os) k (mk os') op (c + 1) q (nl.drop j))) (fun _ jw _ => nl.length - (intOf jw).toNat)
              case atStart => exact ⟨0, os', p, Nat.zero_le _, rfl, hol', oB9, oC9, oP9, fun g h hn => by have h : go = g := (by injection h); have := (hnb g hn).1; omega, rN9, KR9, Nat.le_refl _, HNB⟩
              case round =>
                clear oB9 oC9 oP9 rN9 KR9 HNB
                obtain ⟨j, os2, op, hj, rfl, hol2, oB, oC, oO, hap, rN, KR, hzr9, HFL⟩ := hrel
                by_cases hjl : j < nl.length
                · have hji : (j : Int) < nl.length := by omega
                  have hxM := HNM.out _ (List.getElem_mem hjl)
                  have HFD : Hid (FlM (nbL W H) f (mk os) k (mk os2) op (c + 1) q (nl[j] :: nl.drop (j + 1))) := Lib.hid (by rw [← List.drop_eq_getElem_cons hjl]; exact HFL.out)
                  obtain ⟨bn, obn, hAn, hbn, cN⟩ := rN j (iv nl[j]) (by simp [hjl])
                  subst hAn
                  generalize nl[j] = x at hxM HFD cN
                  rw [show iv x = .int .i64 (x : Nat) from rfl] at cN
                  obtain ⟨zx, hzx⟩ : ∃ zx, zx = os2[x]'(by omega) := ⟨_, rfl⟩
                  obtain ⟨b', o', hb', hbb, cX⟩ := oB.1 x (jv (os2[x]'(by omega))) (by simp [show x < os2.length by omega])
                  injection hb' with hb'
                  injection hb' with hb1 hb2
                  subst hb1; subst hb2
                  rw [← hzx, show jv zx = .int .i64 zx from rfl] at cX
                  have HZX := Lib.hid hzx
                  have hxi : (x : Int) < M := by omega
                  clear hzx HFL
                  cases hfx : f x
                  · have HFX := Lib.hid hfx
                    clear hfx
                    go_wp2_with fail
                    refine (HS.out x wr hxM KR).mono ?_
                    rintro e w10 ⟨rfl, n10, rfl⟩
                    rw [HFX.out]
                    go_wp2
                    refine ⟨⟨j + 1, os2, op, by omega, by go_num, hol2, oB.drewN _, by exact oC, by exact oO, hap, rN.drewN _, below_drewN KR _, by exact hzr9, Lib.hid (HFD.out.skip (.inl HFX.out))⟩, ?_⟩
                    simp [intOf]
                    omega
                  · have HFX := Lib.hid hfx
                    clear hfx
                    by_cases hzx0 : 0 ≤ zx
                    · have HM1 : Hid (at? (mk os2) x = true) := Lib.hid (by rw [at_mk (by omega), ← HZX.out]; exact decide_eq_true hzx0)
                      go_wp2_with fail
                      refine (HS.out x wr hxM KR).mono ?_
                      rintro e w10 ⟨rfl, n10, rfl⟩
                      rw [HFX.out]
                      go_wp2
                      refine ⟨⟨j + 1, os2, op, by omega, by go_num, hol2, oB.drewN _, by exact oC, by exact oO, hap, rN.drewN _, below_drewN KR _, by exact hzr9, Lib.hid (HFD.out.skip (.inr HM1.out))⟩, ?_⟩
                      simp [intOf]
                      omega
                    · have HM0 : Hid (at? (mk os2) x = false) := Lib.hid (by rw [at_mk (by omega), ← HZX.out]; exact decide_eq_false hzx0)
                      have fX : wr.frozen? ⟨b0, ob0 + x, none⟩ = false := by
                        obtain ⟨b2, o2, e2, _, _, hfz⟩ := oB.2.1 x (by simp; omega)
                        injection e2 with e2
                        injection e2 with e3 e4
                        subst e3; subst e4
                        exact hfz
                      have hopl : op.length + 1 ≤ M := by
                        have h1 := HFD.out.cnt
                        have h2 := cntT_set (S := mk os2) (k := x) (by rw [mk_len]; omega) HM0.out
                        have h3 := cntT_le ((mk os2).set x true)
                        rw [List.length_set, mk_len] at h3
                        omega
                      go_wp2_with fail
                      refine (HS.out x wr hxM KR).mono ?_
                      rintro e wq ⟨rfl, nq, hwq⟩
                      rw [HFX.out]
                      obtain ⟨Ax, cx, hvx⟩ := own_slice oO
                      subst hvx
                      have cX : wq.cell? ⟨b0, ob0 + x, none⟩ = some (.int .i64 zx) := by rw [hwq]; exact cX
                      have fX : wq.frozen? ⟨b0, ob0 + x, none⟩ = false := by rw [hwq]; exact fX
                      have oB : OwnS w0.heap.size wq (some ⟨b0, ob0, none⟩) (os2.map jv) := by rw [hwq]; exact oB.drewN _
                      have oC : wq.ownsRow w1.heap.size 2 1 (.slice (some ⟨gc, 0, none⟩) (cs.length + 1) c5) (cs.length + 1) ((cs ++ [c + 1]).map iv) := by rw [hwq]; exact oC
                      have oO : wq.ownsRow w5.heap.size 2 1 (.slice Ax op.length cx) op.length (op.map iv) := by rw [hwq]; exact oO
                      have rN : Rd wq (some ⟨bn, obn, none⟩) (nl.map iv) := by rw [hwq]; exact rN.drewN _
                      have KR : Below w.heap.size w wq := by rw [hwq]; exact below_drewN KR _
                      have hzq : wr.heap.size ≤ wq.heap.size ∧ wq.heap.size ≤ wr.heap.size := by rw [hwq]; exact ⟨Nat.le_refl _, Nat.le_refl _⟩
                      obtain ⟨hzqa, hzqb⟩ := hzq
                      clear hwq
                      go_upto_region 20 with fail
                      obtain ⟨w10, hw10⟩ : ∃ w10, w10 = wq.setCell ⟨b0, ob0 + x, none⟩ (.int .i64 cs.length) := ⟨_, rfl⟩
                      have k10 : Keep (fun b => b = b0) wq w10 := by rw [hw10]; exact (Keep.refl (fun b => b = b0) _).setCell (.inl rfl) _
                      have oBx : OwnS w0.heap.size w10 (some ⟨b0, ob0, none⟩) ((os2.set x (cs.length : Int)).map jv) := by rw [hw10, List.map_set]; exact own_setG oB (by simp; omega)
                      have oCx := own_keepG oC k10 (fun g h e => by have h : gc = g := (by injection h); have e : g = b0 := e; omega)
                      have oOx := own_keepG oO k10 (fun g h e => by have := (oO.lt g h).1; have e : g = b0 := e; omega)
                      have rNx := rN.keepA k10 (fun b h e => by obtain ⟨o, ho⟩ := h; injection ho with ho; injection ho with h1 h2; have h3 := (hnb bn ⟨obn, rfl⟩).1; have e : b = b0 := e; omega)
                      have KRx : Below w.heap.size w w10 := Keep.below KR k10 (by have := KR.size; omega) (fun g h => by have h : g = b0 := h; have := hwz0.out; omega)
                      have hz10 : wq.heap.size ≤ w10.heap.size ∧ w10.heap.size ≤ wq.heap.size := by rw [hw10]; simp [World.setCell]
                      obtain ⟨hz10a, hz10b⟩ := hz10
                      rw [← hw10]
                      clear hw10 k10 oB oC oO rN KR cX cN fX
                      go_wp2_with (at_builtin; refine wpList_pushK rfl _ _ 71 rfl w5.heap.size 2 i0 (.int .i64 0) 8 Try.underlying71 hi0 hz0' hz1 hz2 rfl _ op.length (op.map iv) rfl oOx _ rfl rfl (by unfold maxLen; omega) (by omega) (by omega) ?_)
                      intro v11 w11 ho11 kk11 hp11
                      have S2 : ∀ g, (Value.slice Ax op.length cx).ownBlock = some g → w5.heap.size ≤ g := fun g h => (oOx.lt g h).1
                      have oBy := oBx.keep kk11 (fun b hb e => by have := S2 b e; obtain ⟨o, ho⟩ := hb; injection ho with ho; injection ho with h1 h2; omega)
                      have oCy := own_keepG oCx kk11 (fun g h e => by have := S2 g e; have h : gc = g := (by injection h); omega)
                      have rNy := rNx.keepA kk11 (fun b h e => hap b e h)
                      have KRy : Below w.heap.size w w11 := Keep.below KRx kk11 (by have := KRx.size; omega) (fun g h => by have := S2 g h; have := hwz.out; omega)
                      have hapy : ∀ g, v11.ownBlock = some g → ¬ InA (some ⟨bn, obn, none⟩) g := fun g h hn => by
                        rcases hp11 g h with h2 | h2
                        · exact hap g h2 hn
                        · obtain ⟨o, ho⟩ := hn
                          injection ho with ho
                          injection ho with h3 h4
                          omega
                      have hzy := kk11.size
                      have hmk : mk (os2.set x (cs.length : Int)) = (mk os2).set x true := mk_set (by omega)
                      have HFP : Hid (FlM (nbL W H) f (mk os) k (mk (os2.set x (cs.length : Int))) (op ++ [x]) (c + 1) q (nl.drop (j + 1))) := Lib.hid (by rw [hmk]; exact HFD.out.push HFX.out HM0.out (by rw [mk_len]; omega))
                      have ho11' : w11.ownsRow w5.heap.size 2 1 v11 (op ++ [x]).length ((op ++ [x]).map iv) := by rw [List.length_append, List.map_append]; exact ho11
                      have hol3 : (os2.set x (cs.length : Int)).length = M := by rw [List.length_set]; exact hol2
                      clear hmk ho11 kk11 hp11 oBx oCx oOx rNx KRx S2 HFD
                      go_wp2
                      refine ⟨⟨j + 1, os2.set x (cs.length : Int), op ++ [x], by omega, by go_num, hol3, oBy, oCy, ho11', hapy, rNy, KRy, by omega, HFP⟩, ?_⟩
                      simp [intOf]
                      omega
                · obtain rfl : j = nl.length := by omega
                  have HFE : Hid (FlM (nbL W H) f (mk os) k (mk os2) op (c + 1) q []) := Lib.hid (by have e := HFL.out; rw [List.drop_length] at e; exact e)
                  clear HFL
                  go_wp2_with fail
                  go_roundg (gk - 1)
                  case measure => omega
                  case rel => exact ⟨c + 1, q, os2, op, by omega, hol2, oB, oC, oO, KR, by omega, HFE⟩
    · obtain rfl : k = M := by omega
      obtain ⟨A0, c0, hcv⟩ := own_slice oC
      subst hcv
      have O := Lib.hid ((OwnS.of_own oC).less hwz.out)
      go_wp2
      go_ret2
      exact ⟨_, _, A0, c0, mk os, cs, rfl, HI.out, O.out, KR⟩
end Go.Proofs.Ytcdipgkdbannmaa
