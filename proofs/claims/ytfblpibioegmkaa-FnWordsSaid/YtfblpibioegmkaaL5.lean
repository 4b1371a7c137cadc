/- LettersAfter and LongAfter, both sides. -/
import Derived.Test.YtfblpibioegmkaaL4
namespace Go.Proofs.Ytfblpibioegmkaa
open Go.RowKit

def laOk (s : ByteArray) (rs : List RuleV) (n : Int) : Bool := gramB s rs && (decide (0 ≤ n) && decide (n ≤ 64))
def laB (s : ByteArray) (rs : List RuleV) (n : Int) : Bool := laOk s rs n && itO rs s n.toNat
theorem la_no {s : ByteArray} {rs : List RuleV} {n : Int} (h : laOk s rs n = false) : laB s rs n = false := by unfold laB; rw [h]; rfl
theorem laOk_g {s : ByteArray} {rs : List RuleV} {n : Int} (h : gramB s rs = false) : laOk s rs n = false := by unfold laOk; rw [h]; rfl
theorem laOk_n {s : ByteArray} {rs : List RuleV} {n : Int} (h : (decide (0 ≤ n) && decide (n ≤ 64)) = false) : laOk s rs n = false := by unfold laOk; rw [h, Bool.and_false]
theorem la_yes {s : ByteArray} {rs : List RuleV} {k : Nat} (hG : gramB s rs = true) (h : k ≤ 64) : laB s rs k = itO rs s k := by
  have hd : (decide (0 ≤ (k : Int)) && decide ((k : Int) ≤ 64)) = true := by simp; omega
  unfold laB laOk
  rw [hG, hd]
  rfl
def LaR (w : World) (s : ByteArray) (rs : List RuleV) (n : Int) : Ending → World → Prop := AftR w (itF rs s n.toNat) (laB s rs n)
set_option maxHeartbeats 1000000 in
theorem implLA_any (s : ByteArray) (A : Option Addr) (c : Nat) (rs : List RuleV) (n : Int) (w : World) (hA : RRd w A rs) (hn : rs.length ≤ maxLen) (hs : s.size ≤ maxLen) (hz : ∀ r ∈ rs, r.1.size ≤ maxLen ∧ r.2.size ≤ maxLen) :
    Calls Try.prog 39 #[.agg #[.string s, .slice A rs.length c], .int .i64 n] w (LaR w s rs n) := by
  cases hG : gramB s rs
  · have HN := Lib.hid (la_no (laOk_g (n := n) hG))
    go_enter Try.func39, Try.ntmps39
    go_wp2_with fail
    refine (implVG_any s A c rs _ (hA.below (below_alloc _ _)) hn hs hz).mono ?_
    rintro e w1 ⟨rfl, k1⟩
    rw [hG]
    go_wp2
    go_ret2
    exact .inr ⟨HN.out, rfl, Below.step (below_alloc _ _) k1⟩
  · cases hd : (decide (0 ≤ n) && decide (n ≤ 64))
    · have HN := Lib.hid (la_no (laOk_n (s := s) (rs := rs) hd))
      have HD := Lib.hid hd
      clear hd
      go_enter Try.func39, Try.ntmps39
      go_wp2_with fail
      refine (implVG_any s A c rs _ (hA.below (below_alloc _ _)) hn hs hz).mono ?_
      rintro e w1 ⟨rfl, k1⟩
      rw [hG]
      go_wp2_with fail
      refine (within_any _ _ _ _).mono ?_
      rintro e w2 ⟨rfl, rfl⟩
      rw [HD.out]
      go_wp2
      go_ret2
      exact .inr ⟨HN.out, rfl, Below.step (below_alloc _ _) k1⟩
    · rw [Bool.and_eq_true, decide_eq_true_eq, decide_eq_true_eq] at hd
      obtain ⟨k, rfl⟩ : ∃ k : Nat, n = k := ⟨n.toNat, by omega⟩
      unfold LaR
      rw [la_yes hG (by omega), Int.toNat_natCast]
      exact implLA_yes s A c rs k w hA hn hs hz hG (by omega)
set_option maxHeartbeats 1000000 in
theorem specLA_any (s : ByteArray) (A : Option Addr) (c : Nat) (rs : List RuleV) (n : Int) (w : World) (hA : RRd w A rs) (hn : rs.length ≤ maxLen) (hs : s.size ≤ maxLen) (hz : ∀ r ∈ rs, r.1.size ≤ maxLen ∧ r.2.size ≤ maxLen) :
    Calls Try.prog 38 #[.agg #[.string s, .slice A rs.length c], .int .i64 n] w (LaR w s rs n) := by
  have hA1 := hA.below (below_alloc w (.cells #[.string s, .slice A rs.length c] 25))
  cases hG : gramB s rs
  · have HN := Lib.hid (la_no (laOk_g (n := n) hG))
    go_enter Try.func38, Try.ntmps38
    go_wp2_with fail
    refine (l04Is_any s A c _ rs _ hA1 hn hs hz (by simp) (by simp)).mono ?_
    rintro e w1 ⟨rfl, m, rfl⟩
    rw [hG]
    go_wp2
    go_ret2
    exact .inr ⟨HN.out, rfl, below_drewN (below_alloc _ _) _⟩
  · cases hd : (decide (0 ≤ n) && decide (n ≤ 64))
    · have HN := Lib.hid (la_no (laOk_n (s := s) (rs := rs) hd))
      have HD := Lib.hid hd
      clear hd
      go_enter Try.func38, Try.ntmps38
      go_wp2_with fail
      refine (l04Is_any s A c _ rs _ hA1 hn hs hz (by simp) (by simp)).mono ?_
      rintro e w1 ⟨rfl, m, rfl⟩
      rw [hG]
      go_wp2_with fail
      refine (in_any _ _ _ _).mono ?_
      rintro e w2 ⟨rfl, rfl⟩
      rw [HD.out]
      go_wp2
      go_ret2
      exact .inr ⟨HN.out, rfl, below_drewN (below_alloc _ _) _⟩
    · have HD := Lib.hid hd
      rw [Bool.and_eq_true, decide_eq_true_eq, decide_eq_true_eq] at hd
      obtain ⟨k, rfl⟩ : ∃ k : Nat, n = k := ⟨n.toNat, by omega⟩
      unfold LaR
      rw [la_yes hG (by omega), Int.toNat_natCast]
      have hk : k ≤ 64 := by omega
      have hsm := gram_small hG
      have hss := gram_start hG
      clear hd
      obtain ⟨w0, hw0⟩ : ∃ w0, w0 = w.alloc (.cells #[.string s, .slice A rs.length c] 25) := ⟨_, rfl⟩
      have b0 : w0.cell? ⟨w.heap.size, 0, none⟩ = some (.string s) := by rw [hw0]; simp
      have b1 : w0.cell? ⟨w.heap.size, 1, none⟩ = some (.slice A rs.length c) := by rw [hw0]; simp
      have bl : w.heap.size < w0.heap.size := by rw [hw0]; simp
      have K0 : Below w.heap.size w w0 := by rw [hw0]; exact below_alloc _ _
      have hA0 := hA.below K0
      go_enter Try.func38, Try.ntmps38
      go_wp2_with fail
      rw [← hw0]
      clear hw0
      refine (l04Is_any s A c _ rs _ hA0 hn hs hz b0 b1).mono ?_
      rintro e w1 ⟨rfl, m, hw1⟩
      rw [hG]
      have f0 : w1.cell? ⟨w.heap.size, 0, none⟩ = some (.string s) := by rw [hw1]; exact b0
      have f1 : w1.cell? ⟨w.heap.size, 1, none⟩ = some (.slice A rs.length c) := by rw [hw1]; exact b1
      have hA2 : RRd w1 A rs := by rw [hw1]; exact hA0
      have fl : w.heap.size < w1.heap.size := by rw [hw1]; exact bl
      have K1 : Below w.heap.size w w1 := by rw [hw1]; exact below_drewN K0 _
      clear hw1 K0
      go_wp2_with fail
      refine (in_any _ _ _ _).mono ?_
      rintro e w2 ⟨rfl, rfl⟩
      rw [HD.out]
      go_wp2_with fail
      refine (l04After_any s A c _ rs k _ hA2 hn (by omega) hsm f0 f1 fl hk).mono ?_
      rintro e w3 (⟨h1, g, rfl, hg, hV, k3⟩ | ⟨h1, rfl, k3⟩)
      · go_wp2
        go_ret2
        exact .inl ⟨h1, g, rfl, by have := K1.size; omega, hV, Below.step K1 k3⟩
      · go_wp2
        go_ret2
        exact .inr ⟨h1, rfl, Below.step K1 k3⟩
/-- How often F is there. -/
def loV (s : ByteArray) (rs : List RuleV) (n : Int) : Int := if laB s rs n then itF rs s n.toNat 5 else 0
def LongR (w : World) (s : ByteArray) (rs : List RuleV) (n : Int) (e : Ending) (w' : World) : Prop := e = .returned (.tuple #[.int .i64 (loV s rs n), .bool (laB s rs n)]) ∧ Below w.heap.size w w'
theorem ret_ib2 {a b : Int} {x y : Bool} (h : a = b) (h2 : x = y) : Ending.returned (.tuple #[.int .i64 a, .bool x]) = .returned (.tuple #[.int .i64 b, .bool y]) := by rw [h, h2]
theorem implLo_any (s : ByteArray) (A : Option Addr) (c : Nat) (rs : List RuleV) (n : Int) (w : World) (hA : RRd w A rs) (hn : rs.length ≤ maxLen) (hs : s.size ≤ maxLen) (hz : ∀ r ∈ rs, r.1.size ≤ maxLen ∧ r.2.size ≤ maxLen) :
    Calls Try.prog 37 #[.agg #[.string s, .slice A rs.length c], .int .i64 n] w (LongR w s rs n) := by
  go_enter Try.func37, Try.ntmps37
  go_wp2_with fail
  refine (implLA_any s A c rs n _ (hA.below (below_alloc _ _)) hn hs hz).mono ?_
  rintro e w3 (⟨h1, g, rfl, hg, hV, k3⟩ | ⟨h1, rfl, k3⟩)
  · have c5 := hV.c 5 (by omega)
    go_wp2
    go_ret2
    exact ⟨ret_ib2 (by unfold loV; rw [h1]; rfl) h1.symm, Below.step (below_alloc _ _) k3⟩
  · go_wp2
    go_ret2
    exact ⟨ret_ib2 (by unfold loV; rw [h1]; rfl) h1.symm, Below.step (below_alloc _ _) k3⟩
theorem specLo_any (s : ByteArray) (A : Option Addr) (c : Nat) (rs : List RuleV) (n : Int) (w : World) (hA : RRd w A rs) (hn : rs.length ≤ maxLen) (hs : s.size ≤ maxLen) (hz : ∀ r ∈ rs, r.1.size ≤ maxLen ∧ r.2.size ≤ maxLen) :
    Calls Try.prog 36 #[.agg #[.string s, .slice A rs.length c], .int .i64 n] w (LongR w s rs n) := by
  go_enter Try.func36, Try.ntmps36
  go_wp2_with fail
  refine (specLA_any s A c rs n _ (hA.below (below_alloc _ _)) hn hs hz).mono ?_
  rintro e w3 (⟨h1, g, rfl, hg, hV, k3⟩ | ⟨h1, rfl, k3⟩)
  · have c5 := hV.c 5 (by omega)
    go_wp2
    go_ret2
    exact ⟨ret_ib2 (by unfold loV; rw [h1]; rfl) h1.symm, Below.step (below_alloc _ _) k3⟩
  · go_wp2
    go_ret2
    exact ⟨ret_ib2 (by unfold loV; rw [h1]; rfl) h1.symm, Below.step (below_alloc _ _) k3⟩
end Go.Proofs.Ytfblpibioegmkaa
