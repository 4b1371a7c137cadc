/- slices.Repeat of whole numbers. -/
import Derived.Test.YtcdipgkdbannmaaNb
import Derived.Laws.CopyOwn
import Derived.Deep.RegionLaw
import Derived.BigRegion
namespace Go.Proofs.Ytcdipgkdbannmaa
open Go.RowKit

def jv (z : Int) : Value := .int .i64 z
theorem own_row {w : World} {B g : Nat} {L : List Value} {t : TypeId} (hB : B ≤ g) (h : w.heap[g]? = some (.cells L.toArray t (0, 0))) : OwnS B w (some ⟨g, 0, none⟩) L := by
  have hlt : g < w.heap.size := by
    rcases Nat.lt_or_ge g w.heap.size with hlt | hge
    · exact hlt
    · rw [Array.getElem?_eq_none hge] at h; cases h
  have hc : ∀ i, w.cell? ⟨g, 0 + i, none⟩ = L[i]? := fun i => by
    unfold World.cell?
    rw [h, Nat.zero_add]
    simp
  refine ⟨fun i u hu => ⟨g, 0, rfl, hlt, by rw [hc]; exact hu⟩, fun j hj => ⟨g, 0, rfl, hlt, ⟨_, by rw [hc]; exact List.getElem?_eq_getElem hj⟩, ?_⟩, fun b ⟨o, hb⟩ => ?_⟩
  · unfold World.frozen?
    rw [h]
    simp
  · injection hb with hb
    injection hb with hb
    subst hb
    exact ⟨hB, hlt⟩
def hiE (n : Nat) : Int :=
  IntKind.u64.wrap (IntKind.u64.wrap (IntKind.u64.wrap (IntKind.u64.wrap (bits BinOp.and IntKind.u64 1 4294967295 * bits BinOp.and IntKind.u64 (n : Int) 4294967295) / 4294967296) / 4294967296) +
    IntKind.u64.wrap (bits BinOp.and IntKind.u64 (IntKind.u64.wrap (IntKind.u64.wrap (bits BinOp.and IntKind.u64 1 4294967295 * bits BinOp.and IntKind.u64 (n : Int) 4294967295) / 4294967296)) 4294967295 + IntKind.u64.wrap (bits BinOp.and IntKind.u64 1 4294967295 * ((n : Int) / 4294967296))) / 4294967296)
theorem hiE_zero : ∀ n : Nat, n < 290 → hiE n = 0 := by decide +kernel
set_option maxRecDepth 100000 in
set_option maxHeartbeats 1000000 in
theorem mul_one (n : Nat) (w : World) (hn : n ≤ 289) : Calls Try.prog 80 #[.int .u64 1, .int .u64 n] w fun e w' => e = .returned (.tuple #[.int .u64 0, .int .u64 n]) ∧ w' = w := by
  have h0 := Lib.hid (hiE_zero n (by omega))
  go_enter Try.func80, Try.ntmps80
  go_wp2
  go_ret2
  exact ⟨by
    show Ending.returned (.tuple #[.int .u64 (hiE n), .int .u64 n]) = _
    rw [h0.out], rfl⟩
set_option maxRecDepth 100000 in
set_option maxHeartbeats 1000000 in
theorem repeat_any (x : Int) (n : Nat) (c : Nat) (A : Option Addr) (w : World) (hA : Rd w A [jv x]) (hn : n ≤ 289) (h0 : 0 < n) : Calls Try.prog 68 #[.slice A 1 c, .int .i64 n] w fun e w' => ∃ B c', e = .returned (.slice B n c') ∧ OwnS w.heap.size w' B ((List.replicate n x).map jv) ∧ Below w.heap.size w w' := by
  obtain ⟨i0, hi, hz0, hz1, hz2⟩ := info_parts info.i64
  obtain ⟨b, o, rfl, hb, hc⟩ := hA 0 (jv x) rfl
  have m1 : IntKind.u64.wrap (n : Int) = n := IntWalk.u64_in _ (by omega)
  have m2 : IntKind.i64.wrap (n : Int) = n := IntWalk.i64_in _ (by omega)
  go_enter Try.func68, Try.ntmps68
  go_wp2_with fail
  refine (mul_one n _ hn).mono ?_
  rintro e w1 ⟨rfl, rfl⟩
  go_wp2_with (first | (at_make; refine wpList_make_full _ rfl _ _ 71 rfl w1.heap.size 2 i0 (.int .i64 0) 1 Try.underlying71 hi hz0 hz1 _ _ _ _ n rfl rfl rfl rfl (by rw [hz2]; omega) (by unfold maxLen; omega) (Nat.le_refl _) ?_))
  intro w2 hown hgrow
  obtain ⟨L0, hg2, hl2⟩ : ∃ L0 : List Value, w2.heap[w1.heap.size]? = some (.cells L0.toArray 2 (0, 0)) ∧ L0.length = n := by
    rcases hown.2 with ⟨hv, _⟩ | ⟨g, cap, cur, hv, _, hh, _, _, hcs, _⟩
    · cases hv
    · injection hv with e1 e2 e3
      injection e1 with e1
      injection e1 with e1
      subst e1; subst e3
      exact ⟨cur.toList, by simpa using hh, by simpa using hcs⟩
  have hb2 : Below w1.heap.size w1 w2 := (Below.refl _ _).grown hgrow (Nat.le_refl _) (fun k h => by cases h)
  have hc2 := (hb2.cell (p := ⟨b, o + 0, none⟩) hb).trans hc
  have hsz : (Try.prog.info? 2).map (·.size) = some 1 := by rw [hi]; simp [hz1]
  clear hown hgrow
  have s1 : ([jv x] : List Value).length = Nat.min 1 n := by show 1 = min 1 n; omega
  have s2 : 0 < ([jv x] : List Value).length → (some ⟨w1.heap.size, 0, none⟩ : Option Addr) = some ⟨w1.heap.size, 0, none⟩ ∧ ∃ ad, (some ⟨b, o, none⟩ : Option Addr) = some ad ∧ ∀ (j : Nat) v, ([jv x] : List Value)[j]? = some v → w2.cell? (ad.add j) = some v := fun _ => ⟨rfl, _, rfl, fun j v hj => by
    match j, hj with
    | 0, hj =>
      obtain rfl : jv x = v := by simpa using hj
      rw [Addr.add_lit]
      exact hc2
    | j + 1, hj => exact absurd hj (by simp)⟩
  have s3 : 0 + ([jv x] : List Value).length ≤ L0.length := by simp; omega
  have s4 : ∀ v ∈ ([jv x] : List Value), v.oneCell' = true := fun v hv => by
    obtain rfl : v = jv x := by simpa using hv
    rfl
  go_wp2_with (refine wpList_copy_splice rfl _ _ 71 71 rfl 2 Try.underlying71 hsz _ _ n n 1 c rfl rfl w1.heap.size 0 L0 2 hg2 [jv x] s1 s2 s3 s4 w1.heap.size w1 hb2 (Nat.le_refl _) ?_)
  intro w3 hg3 hb3
  have hpre : (splice L0 0 [jv x]).take 1 = List.replicate 1 (jv x) ∧ (splice L0 0 [jv x]).length = n := by
    refine ⟨by simp [splice], ?_⟩
    rw [length_splice _ _ _ s3, hl2]
  generalize splice L0 0 [jv x] = L1 at hg3 hpre
  have HG := hg3
  clear s1 s2 s3 s4 hg2 hl2 hb2 hc2 hg3
  go_wp2_with fail
  go_loopw [8] (fun nv wr => ∃ (k : Nat) (L : List Value), 1 ≤ k ∧ k ≤ n ∧ nv = .int .i64 k ∧ Hid (wr.heap[w1.heap.size]? = some (.cells L.toArray 2 (0, 0))) ∧ Hid (L.take k = List.replicate k (jv x) ∧ L.length = n) ∧ Below w1.heap.size w1 wr) (fun nv _ => n - (intOf nv).toNat)
  case atStart => exact ⟨1, L1, Nat.le_refl _, h0, by have : Nat.min 1 n = 1 := (by show min 1 n = 1; omega); rw [this], HG, Lib.hid hpre, hb3⟩
  case round =>
    obtain ⟨k, L, k1, hk, rfl, HG, HL, hbel⟩ := hrel
    by_cases hlt : k < n
    · have hlt' : (k : Int) < n := by omega
      have hnk : ¬ n = k := by omega
      have hm : (List.replicate (min k (n - k)) (jv x)).length = Nat.min k (n - k) := by rw [List.length_replicate]
      have hg := HG.out
      have s2 : 0 < (List.replicate (min k (n - k)) (jv x)).length → (some ⟨w1.heap.size, k, none⟩ : Option Addr) = some ⟨w1.heap.size, k, none⟩ ∧ ∃ ad, (some ⟨w1.heap.size, 0, none⟩ : Option Addr) = some ad ∧ ∀ (j : Nat) v, (List.replicate (min k (n - k)) (jv x))[j]? = some v → wr.drew.cell? (ad.add j) = some v := fun _ => ⟨rfl, _, rfl, fun j v hj => by
        have hj2 : j < min k (n - k) := by
          have := (List.getElem?_eq_some_iff.1 hj).1
          simpa using this
        obtain rfl : jv x = v := by simpa [hj2] using hj
        rw [Addr.add_lit, Nat.zero_add]
        show wr.cell? _ = _
        have hx : L[j]? = some (jv x) := by
          have h5 : (L.take k)[j]? = some (jv x) := by rw [HL.out.1, List.getElem?_replicate, if_pos (by omega)]
          rwa [List.getElem?_take_of_lt (by omega)] at h5
        unfold World.cell?
        rw [hg]
        exact (by simp; exact hx)⟩
      have s3 : k + (List.replicate (min k (n - k)) (jv x)).length ≤ L.length := by rw [List.length_replicate, HL.out.2]; omega
      have s4 : ∀ v ∈ List.replicate (min k (n - k)) (jv x), v.oneCell' = true := fun v hv => by
        obtain ⟨_, rfl⟩ := List.mem_replicate.1 hv
        rfl
      have hspl : Hid ((splice L k (List.replicate (min k (n - k)) (jv x))).take (k + min k (n - k)) = List.replicate (k + min k (n - k)) (jv x) ∧ (splice L k (List.replicate (min k (n - k)) (jv x))).length = n) := Lib.hid (by
        refine ⟨?_, by rw [length_splice _ _ _ s3, HL.out.2]⟩
        unfold splice
        rw [← List.append_assoc, List.take_append_of_le_length (by simp [HL.out.2]; omega), HL.out.1, List.replicate_append_replicate, List.take_of_length_le (by simp)])
      have HB := Lib.hid (hbel.drew)
      have S := Lib.hid (And.intro hm (And.intro s2 (And.intro s3 s4)))
      generalize hcs : List.replicate (min k (n - k)) (jv x) = cs at S hspl
      have hlen : cs.length = min k (n - k) := by rw [← hcs, List.length_replicate]
      have hq : IntKind.i64.wrap ((k : Int) + (cs.length : Int)) = (k : Int) + (cs.length : Int) := IntWalk.i64_in _ (by omega)
      have HLn := Lib.hid hlen
      clear hm s2 s3 s4 hcs hg hlen
      go_wp2_with fail
      go_region_law (refine step_copy_splice rfl _ _ 71 71 rfl 2 Try.underlying71 hsz (some ⟨w1.heap.size, k, none⟩) (some ⟨w1.heap.size, 0, none⟩) (n - k) (n - k) k n (by simp [Act.eval, Act.put]) (by simp [Act.eval, Act.put]) w1.heap.size k L 2 HG.out cs S.out.1 (fun h => ⟨rfl, (S.out.2.1 h).2⟩) S.out.2.2.1 S.out.2.2.2 w1.heap.size w1 HB.out (Nat.le_refl _) ?_; intro w' hg' hb')
      simp only [List.getElem_toArray, List.getElem_cons_succ, List.getElem_cons_zero, Act.put, List.setIfInBounds_toArray, List.set_cons_zero, List.set_cons_succ]
      go_wp2
      go_roundw
      case rel => exact ⟨k + cs.length, _, by omega, by have := HLn.out; omega, by go_num, hg', by rw [HLn.out]; exact hspl, hb'⟩
      case measure => have := HLn.out; simp [intOf]; omega
    · obtain rfl : k = n := by omega
      have hL : L = (List.replicate k x).map jv := by
        have h1 := HL.out.1
        rw [List.take_of_length_le (by rw [HL.out.2]; omega)] at h1
        rw [h1, List.map_replicate]
      have hO := Lib.hid (own_row (B := w1.heap.size) (Nat.le_refl _) (hL ▸ HG.out))
      clear hL
      go_wp2
      go_ret
      exact ⟨_, _, rfl, hO.out, hbel⟩
end Go.Proofs.Ytcdipgkdbannmaa
