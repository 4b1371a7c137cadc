/- SlopeOfPowers, both sides. -/
import Derived.Test.YtamgekijihpgkaaSl
import Derived.Test.YtamgekijihpgkaaLogW
import Derived.Test.YtamgekijihpgkaaNeg
namespace Go.Proofs.Ytamgekijihpgkaa
open Go.RowKit

theorem own_made_at (w : World) (base : Nat) (e : TypeId) (s : Nat) (hs : s = w.heap.size) (hb : base ≤ w.heap.size) : (w.alloc (.cells #[] e)).ownsRow base e 1 (.slice (some ⟨s, 0, none⟩) 0 0) 0 [] := by
  subst hs
  exact own_made0 w base e hb
theorem apart_new {a b n c n' c' : Nat} (h : a ≠ b) : Apart (.slice (some ⟨b, 0, none⟩) n c) (.slice (some ⟨a, 0, none⟩) n' c') := fun k h1 h2 => by
  simp [Value.ownBlock] at h1 h2
  omega
theorem own_drewN {w : World} {base : Nat} {e : TypeId} {size : Nat} {v : Value} {n : Nat} {xs : List Value} (h : w.ownsRow base e size v n xs) (m : Nat) : (w.drewN m).ownsRow base e size v n xs := h
/-- Two empty slices, just laid. -/
theorem two_start {G : Prop} (w : World) (e : TypeId) (n1 : Nat)
    (h : (((w.drewN n1).alloc (.cells #[] e)).alloc (.cells #[] e)).ownsRow w.heap.size e 1 (.slice (some ⟨w.heap.size, 0, none⟩) 0 0) 0 [] → (((w.drewN n1).alloc (.cells #[] e)).alloc (.cells #[] e)).ownsRow w.heap.size e 1 (.slice (some ⟨w.heap.size + 1, 0, none⟩) 0 0) 0 [] →
      Apart (.slice (some ⟨w.heap.size + 1, 0, none⟩) 0 0) (.slice (some ⟨w.heap.size, 0, none⟩) 0 0) → Below w.heap.size w (((w.drewN n1).alloc (.cells #[] e)).alloc (.cells #[] e)) → G) : G := by
  obtain ⟨W, hW⟩ : ∃ W, W = w.drewN n1 := ⟨_, rfl⟩
  have hz : W.heap.size = w.heap.size := by rw [hW]; rfl
  have hb : Below w.heap.size w W := by rw [hW]; exact below_drewN (Below.refl _ _) n1
  rw [← hW] at h
  refine h ?_ ?_ (apart_new (by omega)) ((hb.alloc (by omega) _).alloc (by rw [World.size_alloc]; omega) _)
  · exact (own_made_at W w.heap.size e w.heap.size hz.symm (by omega)).alloc _
  · exact own_made_at (W.alloc (.cells #[] e)) w.heap.size e (w.heap.size + 1) (by rw [World.size_alloc, hz]) (by rw [World.size_alloc]; omega)
/-- The whole numbers' logarithms: of 1, 2, .., n. -/
def logN (n : Nat) : List Nat := (List.range n).map fun k => logF (cn .f32 (floatOfInt .f32 ((k + 1 : Nat) : Int)))
theorem logN_succ (n : Nat) : logN (n + 1) = logN n ++ [logF (cn .f32 (floatOfInt .f32 ((n + 1 : Nat) : Int)))] := by simp [logN, List.range_succ]
theorem logN_0 : cl [] = logN 0 := by simp [logN, cl]
theorem logN_len (n : Nat) : (logN n).length = n := by simp [logN]
theorem num_pos : ∀ k, k < 64 → ford .f32 (cn .f32 (floatOfInt .f32 ((k + 1 : Nat) : Int))) (cn .f32 0) = some .gt ∧ finB (cn .f32 (floatOfInt .f32 ((k + 1 : Nat) : Int))) = true := by decide +kernel
/-- Is a number greater than 0? -/
def posB (x : Nat) : Bool := ford .f32 x (cn .f32 0) == some .gt
def posL (xs : List Nat) : Bool := (cl xs).all posB
theorem posL_bad {xs : List Nat} {k : Nat} (hk : k < xs.length) (h : posB (cn .f32 xs[k]) = false) : posL xs = false := by
  unfold posL
  rw [List.all_eq_false]
  exact ⟨cn .f32 xs[k], List.mem_map.2 ⟨xs[k], List.getElem_mem hk, rfl⟩, by simp [h]⟩
theorem posL_step {xs : List Nat} {k : Nat} (hk : k < xs.length) (h : posL (xs.take k) = true) (h' : posB (cn .f32 xs[k]) = true) : posL (xs.take (k + 1)) = true := by
  unfold posL at *
  rw [cl_succ hk, List.all_append, h]
  simp [h']
theorem fin_at {xs : List Nat} {k : Nat} (hk : k < xs.length) (h : finL xs = true) : finB (cn .f32 xs[k]) = true := finL_at hk h
def spY (xs : List Nat) : List Nat := (cl xs).map logF
theorem spY_succ {xs : List Nat} {k : Nat} (h : k < xs.length) : spY (xs.take (k + 1)) = spY (xs.take k) ++ [logF (cn .f32 xs[k])] := by
  unfold spY; rw [cl_succ h, List.map_append]; rfl
theorem spY_0 (xs : List Nat) : cl [] = spY (xs.take 0) := by simp [spY, cl]
theorem posL_0 (xs : List Nat) : posL (xs.take 0) = true := by simp [posL, cl]
def spGood (xs : List Nat) : Bool := decide (2 ≤ xs.length) && decide (xs.length ≤ 64) && finL xs && posL xs
def spV (xs : List Nat) : Nat := fneg .f32 (slS (logN xs.length) (spY xs))
def slpOk (xs : List Nat) : Bool := spGood xs && finB (spV xs)
def spX (xs : List Nat) : Nat := if spGood xs then numX (spV xs) else cn .f32 0
theorem sp_bad {xs : List Nat} {w w' : World} (h : spGood xs = false) (k : Below w.heap.size w w') : NumB w (spX xs) (slpOk xs) (.returned (.tuple #[.float .f32 0, .bool false])) w' :=
  ⟨0, by unfold slpOk; rw [h]; rfl, by unfold spX; rw [h]; rfl, k⟩
theorem sp_short {xs : List Nat} (h : ¬ (2 ≤ xs.length ∧ xs.length ≤ 64)) : spGood xs = false := by
  unfold spGood
  by_cases h1 : 2 ≤ xs.length
  · have : ¬ xs.length ≤ 64 := by omega
    simp [this]
  · simp [h1]
theorem sp_fin {xs : List Nat} (h : finL xs = false) : spGood xs = false := by unfold spGood; simp [h]
theorem sp_pos {xs : List Nat} (h : posL xs = false) : spGood xs = false := by unfold spGood; simp [h]
theorem sp_good {xs : List Nat} (h1 : 2 ≤ xs.length) (h2 : xs.length ≤ 64) (h3 : finL xs = true) (h4 : posL xs = true) : spGood xs = true := by unfold spGood; simp [h1, h2, h3, h4]

set_option maxRecDepth 100000 in
set_option maxHeartbeats 2000000 in
theorem implSP_any (A : Option Addr) (c : Nat) (xs : List Nat) (w : World) (hA : FRd w A xs) (hn : xs.length ≤ maxLen) :
    Calls Try.prog 10 #[.slice A xs.length c] w (NumB w (spX xs) (slpOk xs)) := by
  by_cases h2 : 2 ≤ xs.length ∧ xs.length ≤ 64
  · obtain ⟨h2, h64⟩ := h2
    cases hf : finL xs
    · have B := fun m => Lib.hid (sp_bad (w := w) (w' := w.drewN m) (sp_fin hf) (below_drewN (Below.refl _ _) m))
      go_enter Try.func10, Try.ntmps10
      go_wp2_with fail
      refine (areFinite_any _ _ _ _ hA hn).mono ?_
      rintro e w1 ⟨rfl, n1, rfl⟩
      rw [hf]
      go_wp2
      go_ret2
      exact (B n1).out
    · obtain ⟨i0, hi, hz0, hz1, hz2⟩ := info_parts info.f32
      go_enter Try.func10, Try.ntmps10
      go_wp2_with fail
      refine (areFinite_any _ _ _ _ hA hn).mono ?_
      rintro e w1 ⟨rfl, n1, rfl⟩
      rw [hf]
      go_wp2_with fail
      go_loopw [4, 5, 28] (fun u v i wr => ∃ (k : Nat) (ys zs : List Nat), k ≤ xs.length ∧ i = .int .i64 k ∧ wr.ownsRow w.heap.size 25 1 u k (ys.map fv) ∧ wr.ownsRow w.heap.size 25 1 v k (zs.map fv) ∧ Apart v u ∧ Below w.heap.size w wr ∧ Hid (cl ys = logN k) ∧ Hid (cl zs = spY (xs.take k)) ∧ Hid (posL (xs.take k) = true)) (fun _ _ i _ => xs.length - (intOf i).toNat)
      case atStart => exact two_start w 25 n1 (fun o1 o2 ap kb => ⟨0, [], [], Nat.zero_le _, rfl, o1, o2, ap, kb, Lib.hid logN_0, Lib.hid (spY_0 xs), Lib.hid (posL_0 xs)⟩)
      case round =>
        obtain ⟨k, ys, zs, hk, rfl, hown, hown2, hap, hbel, HM, HN, HP⟩ := hrel
        by_cases hlt : k < xs.length
        · have hR : FRd wr A xs := Rd.below hA hbel
          obtain ⟨b, o, rfl, hb, hc⟩ := hR.at_ hlt
          clear hR
          cases hp : posB (cn .f32 xs[k])
          · have B := Lib.hid (sp_bad (w := w) (w' := wr) (sp_pos (posL_bad hlt hp)) hbel)
            unfold posB at hp
            clear hown hown2 hap HM HN HP
            go_wp2
            go_ret2
            exact B.out
          · have hst := Lib.hid (posL_step hlt HP.out hp)
            obtain ⟨q1, q2⟩ := num_pos k (by omega)
            have hg : ford .f32 (cn .f32 xs[k]) (cn .f32 0) = some .gt := by unfold posB at hp; simpa using hp
            have hfx := fin_at hlt hf
            unfold posB at hp
            go_wp2_with fail
            refine (logNumber_any _ _ q1 q2).mono ?_
            rintro e w2 ⟨b1, m1, rfl, g1, rfl⟩
            have G1 := Lib.hid g1
            clear g1
            go_wp2_with (at_builtin; refine wpList_push2 rfl _ _ 27 rfl w.heap.size 25 i0 (.float .f32 0) 4 Try.underlying27 hi hz0 hz1 hz2 rfl _ k (ys.map fv) rfl hown _ rfl rfl (by unfold maxLen; omega) (by omega) hbel.size ?_)
            intro v' w' hown' hb' hoth
            obtain ⟨hown2', hap'⟩ := hoth _ _ _ _ hown2 hap
            have hb2 := (below_drewN hbel m1).trans hb'
            clear hb' hown hbel hc hown2 hap hoth
            go_wp2_with fail
            refine (logNumber_any _ _ hg hfx).mono ?_
            rintro e w2 ⟨b2, m2, rfl, g2, rfl⟩
            have G2 := Lib.hid g2
            clear g2
            go_wp2_with (at_builtin; refine wpList_push2 rfl _ _ 27 rfl w.heap.size 25 i0 (.float .f32 0) 4 Try.underlying27 hi hz0 hz1 hz2 rfl _ k (zs.map fv) rfl hown2' _ rfl rfl (by unfold maxLen; omega) (by omega) hb2.size ?_)
            intro v2 w2 hown2 hb' hoth
            obtain ⟨hown, hap⟩ := hoth _ _ _ _ hown' hap'.symm
            have hb3 := (below_drewN hb2 m2).trans hb'
            clear hb' hown' hown2' hap' hoth hb2
            go_wp2
            go_roundw
            case rel => exact ⟨k + 1, ys ++ [b1], zs ++ [b2], by omega, by go_num, by rw [List.map_append]; exact hown, by rw [List.map_append]; exact hown2, hap.symm, hb3, Lib.hid (by rw [cl_snoc, HM.out, logN_succ, G1.out]), Lib.hid (by rw [cl_snoc, HN.out, spY_succ hlt, G2.out]), hst⟩
            case measure => simp [intOf]; omega
        · obtain rfl : k = xs.length := by omega
          have e1 := HM.out
          have e2 := HN.out
          have e3 := HP.out
          rw [List.take_length] at e2 e3
          have hgood := Lib.hid (sp_good h2 h64 hf e3)
          have ly : ys.length = xs.length := by rw [← cl_len, e1, logN_len]
          have lz : zs.length = xs.length := by rw [← cl_len, e2]; simp [spY, cl_len]
          obtain ⟨Y, cY, rfl⟩ := own_slice hown
          obtain ⟨Z, cZ, rfl⟩ := own_slice hown2
          have hY : FRd wr Y ys := Rd.of_own hown
          have hZ : FRd wr Z zs := Rd.of_own hown2
          have E1 := Lib.hid e1
          have E2 := Lib.hid e2
          clear e1 e2 e3 HM HN HP hown hown2 hap
          have LY := Lib.hid ly
          have hs := slope_any Y Z cY cZ ys zs wr hY hZ (by omega) (by omega) (by omega)
          rw [ly, lz] at hs
          clear ly lz
          go_wp2_with fail
          refine hs.mono ?_
          rintro e w2 ⟨s1, s2, s3, m2, rfl, g1, g2, g3, rfl⟩
          have G1 := Lib.hid g1
          clear g1 g2 g3 hs
          go_wp2_with fail
          refine (ifNumber_any _ _).mono ?_
          rintro e w3 ⟨b3, n3, rfl, e3, rfl⟩
          have E3 := Lib.hid e3
          clear e3
          go_wp2
          go_ret2
          have hv : fneg .f32 (cn .f32 s1) = spV xs := by rw [G1.out, E1.out, E2.out]; rfl
          exact ⟨_, ret_num (by unfold slpOk; rw [hgood.out, hv]; rfl), by rw [E3.out, cn_neg, hv]; unfold spX; rw [hgood.out]; rfl, below_drewN hbel _⟩
  · have B := Lib.hid (sp_bad (w := w) (w' := w) (sp_short h2) (Below.refl _ _))
    unfold maxLen at hn
    by_cases h2' : 2 ≤ xs.length
    · have h3 : (64 : Int) < xs.length := by omega
      have h4 : ¬ ((xs.length : Int) < 2) := by omega
      clear h2
      go_enter Try.func10, Try.ntmps10
      go_wp2
      go_ret2
      exact B.out
    · have h3 : (xs.length : Int) < 2 := by omega
      clear h2
      go_enter Try.func10, Try.ntmps10
      go_wp2
      go_ret2
      exact B.out
end Go.Proofs.Ytamgekijihpgkaa
