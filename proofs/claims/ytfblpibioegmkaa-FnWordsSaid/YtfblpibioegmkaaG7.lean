/- Rewrite, both sides. -/
import Derived.Test.YtfblpibioegmkaaG6
namespace Go.Proofs.Ytfblpibioegmkaa
open Go.RowKit

def itT (rs : List RuleV) (s : ByteArray) : Nat → ByteArray
  | 0 => s
  | k + 1 => onceV rs (itT rs s k)
def itB (rs : List RuleV) (s : ByteArray) (n : Nat) : Bool := (List.range n).all fun k => onceB rs (itT rs s k)
theorem itB_succ (rs : List RuleV) (s : ByteArray) (n : Nat) : itB rs s (n + 1) = (itB rs s n && onceB rs (itT rs s n)) := by
  unfold itB; rw [List.range_succ, List.all_append]; simp
theorem itB_bad {rs : List RuleV} {s : ByteArray} {k n : Nat} (hk : k < n) (h : onceB rs (itT rs s k) = false) : itB rs s n = false := by
  unfold itB
  rw [List.all_eq_false]
  exact ⟨k, List.mem_range.2 hk, by simp [h]⟩
theorem onceV_size (rs : List RuleV) (t : ByteArray) : (onceV rs t).size ≤ 4000 := by
  unfold onceV
  split
  · rename_i h
    have := of_decide_eq_true h
    show (onceL rs t t.size).toArray.size ≤ 4000
    rw [List.size_toArray]
    exact this
  · exact Nat.zero_le _
theorem itT_size (rs : List RuleV) (s : ByteArray) (hs : s.size ≤ 4000) : ∀ k, (itT rs s k).size ≤ 4000
  | 0 => hs
  | _ + 1 => onceV_size _ _
theorem gram_start {s : ByteArray} {rs : List RuleV} (h : gramB s rs = true) : s.size ≤ 32 := by
  unfold gramB at h
  rw [Bool.and_eq_true, Bool.and_eq_true] at h
  have h3 := word_small h.2.1
  have h4 : s.data.toList.length = s.size := Array.length_toList
  omega
def rpOk (s : ByteArray) (rs : List RuleV) (n : Int) : Bool := gramB s rs && (decide (0 ≤ n) && decide (n ≤ 16))
def rpB (s : ByteArray) (rs : List RuleV) (n : Int) : Bool := rpOk s rs n && itB rs s n.toNat
def rpV (s : ByteArray) (rs : List RuleV) (n : Int) : ByteArray := if rpB s rs n then itT rs s n.toNat else ⟨#[]⟩
theorem rp_no1 {s : ByteArray} {rs : List RuleV} {n : Int} (h : rpOk s rs n = false) : rpB s rs n = false ∧ rpV s rs n = ⟨#[]⟩ := by
  have : rpB s rs n = false := by unfold rpB; rw [h]; rfl
  exact ⟨this, by unfold rpV; rw [this]; rfl⟩
theorem within_any (n a b : Int) (w : World) : Calls Try.prog 67 #[.int .i64 n, .int .i64 a, .int .i64 b] w fun e w' => e = .returned (.bool (decide (a ≤ n) && decide (n ≤ b))) ∧ w = w' := by
  go_enter Try.func67, Try.ntmps67
  go_wp2
  all_goals
    go_ret
    exact ⟨ret_bool (by first | (simp_all; done) | (simp; omega)), rfl⟩
theorem in_any (n a b : Int) (w : World) : Calls Try.prog 66 #[.int .i64 n, .int .i64 a, .int .i64 b] w fun e w' => e = .returned (.bool (decide (a ≤ n) && decide (n ≤ b))) ∧ w = w' := by
  go_enter Try.func66, Try.ntmps66
  go_wp2
  all_goals
    go_ret
    exact ⟨ret_bool (by first | (simp_all; done) | (simp; omega)), rfl⟩
set_option maxHeartbeats 1000000 in
theorem implRP_yes (s : ByteArray) (A : Option Addr) (c : Nat) (rs : List RuleV) (n : Nat) (w : World) (hA : RRd w A rs) (hn : rs.length ≤ maxLen) (hs : s.size ≤ maxLen) (hz : ∀ r ∈ rs, r.1.size ≤ maxLen ∧ r.2.size ≤ maxLen) (hG : gramB s rs = true) (h16 : n ≤ 16) :
    Calls Try.prog 35 #[.agg #[.string s, .slice A rs.length c], .int .i64 n] w (TextB w (rpV s rs n) (rpB s rs n)) := by
  have hd : (decide (0 ≤ (n : Int)) && decide ((n : Int) ≤ 16)) = true := by simp; omega
  have hB : Hid (rpB s rs n = itB rs s n) := Lib.hid (by unfold rpB rpOk; rw [hG, hd]; rfl)
  go_enter Try.func35, Try.ntmps35
  go_wp2_with fail
  refine (implVG_any s A c rs _ (hA.below (below_alloc _ _)) hn hs hz).mono ?_
  rintro e w1 ⟨rfl, k1⟩
  rw [hG]
  have K1 : Below w.heap.size w w1 := Below.step (below_alloc _ _) k1
  have f0 : w1.cell? ⟨w.heap.size, 0, none⟩ = some (.string s) := (k1.cell (by simp)).trans (by simp)
  have f1 : w1.cell? ⟨w.heap.size, 1, none⟩ = some (.slice A rs.length c) := (k1.cell (by simp)).trans (by simp)
  have z1 : w.heap.size < w1.heap.size := by have := k1.size; simp at this; omega
  clear k1
  go_wp2_with fail
  refine (within_any _ _ _ _).mono ?_
  rintro e w2 ⟨rfl, rfl⟩
  rw [hd]
  go_wp2_with fail
  go_loopw [6, 20] (fun tv iv wr => ∃ k : Nat, k ≤ n ∧ iv = .int .i64 k ∧ tv = .string (itT rs s k) ∧ Hid (itB rs s k = true) ∧ Below w1.heap.size w1 wr) (fun _ iv _ => n - (intOf iv).toNat)
  case atStart => exact ⟨0, Nat.zero_le _, rfl, rfl, Lib.hid rfl, Below.refl _ _⟩
  case round =>
    obtain ⟨k, hk, rfl, rfl, HB, hbel⟩ := hrel
    by_cases hlt : k < n
    · have g0 := (hbel.cell (p := ⟨w.heap.size, 0, none⟩) z1).trans f0
      have g1 := (hbel.cell (p := ⟨w.heap.size, 1, none⟩) z1).trans f1
      have hsz := itT_size rs s (by have := gram_start hG; omega) k
      go_wp2_with fail
      refine (rewritten_any s (itT rs s k) A c rs _ ((hA.below K1).below hbel) hn hsz (gram_small hG)).mono ?_
      rintro e w3 ⟨rfl, k3⟩
      have K3 := Below.step hbel k3
      cases ho : onceB rs (itT rs s k)
      · have hno : Hid (itB rs s n = false) := Lib.hid (itB_bad hlt ho)
        go_wp2
        go_ret2
        exact ⟨ret_tb (by unfold rpV; rw [hB.out, hno.out]; rfl) (by rw [hB.out, hno.out]), Below.step K1 K3⟩
      · have hB2 : Hid (itB rs s (k + 1) = true) := Lib.hid (by rw [itB_succ, HB.out, ho]; rfl)
        go_wp2
        go_roundw
        case rel => exact ⟨k + 1, by omega, by go_num, rfl, hB2, K3⟩
        case measure => simp [intOf]; omega
    · obtain rfl : k = n := by omega
      have hyes : Hid (rpB s rs k = true) := Lib.hid (by rw [hB.out, HB.out])
      go_wp2
      go_ret2
      exact ⟨ret_tb (by unfold rpV; rw [hyes.out]; rfl) hyes.out.symm, Below.step K1 hbel⟩
set_option maxHeartbeats 1000000 in
theorem specRP_yes (s : ByteArray) (A : Option Addr) (c : Nat) (rs : List RuleV) (n : Nat) (w : World) (hA : RRd w A rs) (hn : rs.length ≤ maxLen) (hs : s.size ≤ maxLen) (hz : ∀ r ∈ rs, r.1.size ≤ maxLen ∧ r.2.size ≤ maxLen) (hG : gramB s rs = true) (h16 : n ≤ 16) :
    Calls Try.prog 34 #[.agg #[.string s, .slice A rs.length c], .int .i64 n] w (TextB w (rpV s rs n) (rpB s rs n)) := by
  have hd : (decide (0 ≤ (n : Int)) && decide ((n : Int) ≤ 16)) = true := by simp; omega
  have hB : Hid (rpB s rs n = itB rs s n) := Lib.hid (by unfold rpB rpOk; rw [hG, hd]; rfl)
  obtain ⟨w0, hw0⟩ : ∃ w0, w0 = w.alloc (.cells #[.string s, .slice A rs.length c] 25) := ⟨_, rfl⟩
  have b0 : w0.cell? ⟨w.heap.size, 0, none⟩ = some (.string s) := by rw [hw0]; simp
  have b1 : w0.cell? ⟨w.heap.size, 1, none⟩ = some (.slice A rs.length c) := by rw [hw0]; simp
  have K0 : Below w.heap.size w w0 := by rw [hw0]; exact below_alloc _ _
  have hA0 := hA.below K0
  go_enter Try.func34, Try.ntmps34
  go_wp2_with fail
  rw [← hw0]
  clear hw0
  refine (l04Is_any s A c _ rs _ hA0 hn hs hz b0 b1).mono ?_
  rintro e w1 ⟨rfl, n1, hw1⟩
  rw [hG]
  go_wp2_with fail
  refine (in_any _ _ _ _).mono ?_
  rintro e w2 ⟨rfl, rfl⟩
  rw [hd]
  have f0 : w1.cell? ⟨w.heap.size, 0, none⟩ = some (.string s) := by rw [hw1]; exact b0
  go_wp2_with fail
  go_loopw [6, 7] (fun tv iv wr => ∃ k m : Nat, k ≤ n ∧ iv = .int .i64 k ∧ tv = .string (itT rs s k) ∧ Hid (itB rs s k = true) ∧ wr = w0.drewN m) (fun _ iv _ => n - (intOf iv).toNat)
  case atStart => exact ⟨0, n1, Nat.zero_le _, rfl, rfl, Lib.hid rfl, by first | rfl | exact hw1⟩
  case round =>
    clear f0 hw1
    obtain ⟨k, m, hk, rfl, rfl, HB, hwr⟩ := hrel
    have g1 : wr.cell? ⟨w.heap.size, 1, none⟩ = some (.slice A rs.length c) := by rw [hwr]; exact b1
    have hAr : RRd wr A rs := by rw [hwr]; exact hA0
    have KW : Below w.heap.size w wr := by rw [hwr]; exact below_drewN K0 _
    have HW := Lib.hid hwr
    clear hwr
    by_cases hlt : k < n
    · have hsz := itT_size rs s (by have := gram_start hG; omega) k
      go_wp2_with fail
      refine (l04Once_any (itT rs s k) A c _ rs _ hAr hn hsz (gram_small hG) g1).mono ?_
      rintro e w3 ⟨rfl, m3, rfl⟩
      cases ho : onceB rs (itT rs s k)
      · have hno : Hid (itB rs s n = false) := Lib.hid (itB_bad hlt ho)
        go_wp2
        go_ret2
        exact ⟨ret_tb (by unfold rpV; rw [hB.out, hno.out]; rfl) (by rw [hB.out, hno.out]), below_drewN KW _⟩
      · have hB2 : Hid (itB rs s (k + 1) = true) := Lib.hid (by rw [itB_succ, HB.out, ho]; rfl)
        go_wp2
        go_roundw
        case rel => exact ⟨k + 1, m + m3, by omega, by go_num, rfl, hB2, by rw [HW.out]; exact World.drewN_drewN _ _ _⟩
        case measure => simp [intOf]; omega
    · obtain rfl : k = n := by omega
      have hyes : Hid (rpB s rs k = true) := Lib.hid (by rw [hB.out, HB.out])
      go_wp2
      go_ret2
      exact ⟨ret_tb (by unfold rpV; rw [hyes.out]; rfl) hyes.out.symm, KW⟩
theorem rpOk_g {s : ByteArray} {rs : List RuleV} {n : Int} (h : gramB s rs = false) : rpOk s rs n = false := by unfold rpOk; rw [h]; rfl
theorem rpOk_n {s : ByteArray} {rs : List RuleV} {n : Int} (h : (decide (0 ≤ n) && decide (n ≤ 16)) = false) : rpOk s rs n = false := by unfold rpOk; rw [h, Bool.and_false]
set_option maxHeartbeats 1000000 in
theorem implRP_any (s : ByteArray) (A : Option Addr) (c : Nat) (rs : List RuleV) (n : Int) (w : World) (hA : RRd w A rs) (hn : rs.length ≤ maxLen) (hs : s.size ≤ maxLen) (hz : ∀ r ∈ rs, r.1.size ≤ maxLen ∧ r.2.size ≤ maxLen) :
    Calls Try.prog 35 #[.agg #[.string s, .slice A rs.length c], .int .i64 n] w (TextB w (rpV s rs n) (rpB s rs n)) := by
  cases hG : gramB s rs
  · have HN := Lib.hid (rp_no1 (rpOk_g (n := n) hG))
    go_enter Try.func35, Try.ntmps35
    go_wp2_with fail
    refine (implVG_any s A c rs _ (hA.below (below_alloc _ _)) hn hs hz).mono ?_
    rintro e w1 ⟨rfl, k1⟩
    rw [hG]
    go_wp2
    go_ret2
    exact ⟨ret_tb HN.out.2.symm HN.out.1.symm, Below.step (below_alloc _ _) k1⟩
  · cases hd : (decide (0 ≤ n) && decide (n ≤ 16))
    · have HN := Lib.hid (rp_no1 (rpOk_n (s := s) (rs := rs) hd))
      have HD := Lib.hid hd
      clear hd
      go_enter Try.func35, Try.ntmps35
      go_wp2_with fail
      refine (implVG_any s A c rs _ (hA.below (below_alloc _ _)) hn hs hz).mono ?_
      rintro e w1 ⟨rfl, k1⟩
      rw [hG]
      go_wp2_with fail
      refine (within_any _ _ _ _).mono ?_
      rintro e w2 ⟨rfl, rfl⟩
      rw [HD.out]
      go_wp2
      go_ret2
      exact ⟨ret_tb HN.out.2.symm HN.out.1.symm, Below.step (below_alloc _ _) k1⟩
    · rw [Bool.and_eq_true, decide_eq_true_eq, decide_eq_true_eq] at hd
      obtain ⟨k, rfl⟩ : ∃ k : Nat, n = k := ⟨n.toNat, by omega⟩
      exact implRP_yes s A c rs k w hA hn hs hz hG (by omega)
set_option maxHeartbeats 1000000 in
theorem specRP_any (s : ByteArray) (A : Option Addr) (c : Nat) (rs : List RuleV) (n : Int) (w : World) (hA : RRd w A rs) (hn : rs.length ≤ maxLen) (hs : s.size ≤ maxLen) (hz : ∀ r ∈ rs, r.1.size ≤ maxLen ∧ r.2.size ≤ maxLen) :
    Calls Try.prog 34 #[.agg #[.string s, .slice A rs.length c], .int .i64 n] w (TextB w (rpV s rs n) (rpB s rs n)) := by
  have hA1 := hA.below (below_alloc w (.cells #[.string s, .slice A rs.length c] 25))
  cases hG : gramB s rs
  · have HN := Lib.hid (rp_no1 (rpOk_g (n := n) hG))
    go_enter Try.func34, Try.ntmps34
    go_wp2_with fail
    refine (l04Is_any s A c _ rs _ hA1 hn hs hz (by simp) (by simp)).mono ?_
    rintro e w1 ⟨rfl, m, rfl⟩
    rw [hG]
    go_wp2
    go_ret2
    exact ⟨ret_tb HN.out.2.symm HN.out.1.symm, below_drewN (below_alloc _ _) _⟩
  · cases hd : (decide (0 ≤ n) && decide (n ≤ 16))
    · have HN := Lib.hid (rp_no1 (rpOk_n (s := s) (rs := rs) hd))
      have HD := Lib.hid hd
      clear hd
      go_enter Try.func34, Try.ntmps34
      go_wp2_with fail
      refine (l04Is_any s A c _ rs _ hA1 hn hs hz (by simp) (by simp)).mono ?_
      rintro e w1 ⟨rfl, m, rfl⟩
      rw [hG]
      go_wp2_with fail
      refine (in_any _ _ _ _).mono ?_
      rintro e w2 ⟨rfl, rfl⟩
      rw [HD.out]
      go_wp2
      go_ret2
      exact ⟨ret_tb HN.out.2.symm HN.out.1.symm, below_drewN (below_alloc _ _) _⟩
    · rw [Bool.and_eq_true, decide_eq_true_eq, decide_eq_true_eq] at hd
      obtain ⟨k, rfl⟩ : ∃ k : Nat, n = k := ⟨n.toNat, by omega⟩
      exact specRP_yes s A c rs k w hA hn hs hz hG (by omega)
end Go.Proofs.Ytfblpibioegmkaa
