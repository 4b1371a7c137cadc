/- A word rewritten once: the reference; RewriteOnce, both sides. -/
import Derived.Test.YtfblpibioegmkaaG5
namespace Go.Proofs.Ytfblpibioegmkaa
open Go.RowKit

theorem bytes_append (l : List UInt8) (x : ByteArray) : (⟨l.toArray⟩ : ByteArray) ++ x = ⟨(l ++ x.data.toList).toArray⟩ := by
  ext1
  rw [ByteArray.data_append]
  simp
set_option maxRecDepth 100000 in
set_option maxHeartbeats 2000000 in
theorem l04Once_any (t : ByteArray) (A : Option Addr) (c p : Nat) (rs : List RuleV) (w : World) (hA : RRd w A rs) (hn : rs.length ≤ maxLen) (ht : t.size ≤ 4000) (hz : ∀ r ∈ rs, r.2.size ≤ 32)
    (b1 : w.cell? ⟨p, 1, none⟩ = some (.slice A rs.length c)) :
    Calls Try.prog 64 #[.pointer (some ⟨p, 0, none⟩), .string t] w fun e w' => e = .returned (.tuple #[.string (onceV rs t), .bool (onceB rs t)]) ∧ ∃ n, w' = w.drewN n := by
  go_enter Try.func64, Try.ntmps64
  go_wp2_with fail
  go_loopw [6, 7] (fun ov iv wr => ∃ k n : Nat, k ≤ t.size ∧ iv = .int .i64 k ∧ ov = .string ⟨(onceL rs t k).toArray⟩ ∧ (onceL rs t k).length ≤ 4000 ∧ wr = w.drewN n) (fun _ iv _ => t.size - (intOf iv).toNat)
  case atStart => exact ⟨0, 0, Nat.zero_le _, rfl, rfl, Nat.zero_le _, rfl⟩
  case round =>
    obtain ⟨k, n, hk, rfl, rfl, hlen, hwr⟩ := hrel
    have c1 : wr.cell? ⟨p, 1, none⟩ = some (.slice A rs.length c) := by rw [hwr]; exact b1
    have HW := Lib.hid hwr
    have hAr : RRd wr A rs := by rw [hwr]; exact hA
    clear hwr
    by_cases hlt : k < t.size
    · have hlt' : (k : Int) < t.size := by omega
      have hle' : (k : Int) + 1 ≤ t.size := by omega
      have hone : onceL rs t (k + 1) = onceL rs t k ++ (subT rs (lett t k)).data.toList := rfl
      have hsz := subT_size (rs := rs) hz (t := lett t k) (by rw [lett_size hlt]; omega)
      go_wp2_with fail
      refine (l04Text_any (lett t k) A c p rs wr hAr hn c1).mono ?_
      rintro e w2 ⟨rfl, m, rfl⟩
      have HO := Lib.hid hone
      have hln : Hid ((onceL rs t (k + 1)).length = (onceL rs t k).length + (subT rs (lett t k)).size) := Lib.hid (by rw [hone, List.length_append]; rfl)
      generalize subT rs (lett t k) = x at hsz HO hln
      clear hone
      by_cases hle : (onceL rs t k).length + x.size ≤ 4000
      · have hle' : ((onceL rs t k).length : Int) + x.size ≤ 4000 := by omega
        go_wp2
        go_roundw
        case rel => exact ⟨k + 1, n + m, by omega, by go_num, by rw [HO.out, bytes_append], by have := hln.out; omega, by rw [HW.out]; exact World.drewN_drewN _ _ _⟩
        case measure => simp [intOf]; omega
      · have hle' : ¬ ((onceL rs t k).length : Int) + x.size ≤ 4000 := by omega
        have hno := Lib.hid (onceB_no (rs := rs) (t := t) (show k + 1 ≤ t.size by omega) (by have := hln.out; omega))
        go_wp2
        go_ret2
        exact ⟨by unfold onceV; rw [hno.out]; rfl, n + m, by rw [HW.out]; exact World.drewN_drewN _ _ _⟩
    · obtain rfl : k = t.size := by omega
      have hyes : Hid (onceB rs t = true) := Lib.hid (by unfold onceB; exact decide_eq_true hlen)
      go_wp2
      go_ret2
      exact ⟨by unfold onceV; rw [hyes.out]; rfl, n, HW.out⟩

theorem word_small {n : Int} {l : List UInt8} (h : wordB n l = true) : (l.length : Int) ≤ n := by
  unfold wordB at h
  rw [Bool.and_eq_true] at h
  exact of_decide_eq_true h.1
theorem gram_small {s : ByteArray} {rs : List RuleV} (h : gramB s rs = true) : ∀ r ∈ rs, r.2.size ≤ 32 := by
  intro r hr
  obtain ⟨j, hj, rfl⟩ := List.getElem_of_mem hr
  unfold gramB rulesB at h
  rw [Bool.and_eq_true, List.all_eq_true] at h
  have h1 := h.1 j (List.mem_range.2 hj)
  unfold okAt at h1
  rw [Bool.and_eq_true, okAt_at hj] at h1
  have h2 := h1.1
  unfold ruleB at h2
  rw [Bool.and_eq_true] at h2
  have h3 := word_small h2.2
  have h4 : rs[j].2.data.toList.length = rs[j].2.size := Array.length_toList
  omega
/-- What RewriteOnce gives. -/
def rwB (s : ByteArray) (rs : List RuleV) (t : ByteArray) : Bool := gramB s rs && (wordB 4000 t.data.toList && onceB rs t)
def rwV (s : ByteArray) (rs : List RuleV) (t : ByteArray) : ByteArray := if gramB s rs && wordB 4000 t.data.toList then onceV rs t else ⟨#[]⟩
theorem rw_no1 {s : ByteArray} {rs : List RuleV} {t : ByteArray} (h : gramB s rs = false) : rwB s rs t = false ∧ rwV s rs t = ⟨#[]⟩ := by unfold rwB rwV; rw [h]; exact ⟨rfl, rfl⟩
theorem rw_no2 {s : ByteArray} {rs : List RuleV} {t : ByteArray} (h : wordB 4000 t.data.toList = false) : rwB s rs t = false ∧ rwV s rs t = ⟨#[]⟩ := by unfold rwB rwV; rw [h]; simp
theorem rw_yes {s : ByteArray} {rs : List RuleV} {t : ByteArray} (h : gramB s rs = true) (h2 : wordB 4000 t.data.toList = true) : rwB s rs t = onceB rs t ∧ rwV s rs t = onceV rs t := by unfold rwB rwV; rw [h, h2]; exact ⟨rfl, rfl⟩
theorem ret_tb {a b : ByteArray} {x y : Bool} (h : a = b) (h2 : x = y) : Ending.returned (.tuple #[.string a, .bool x]) = .returned (.tuple #[.string b, .bool y]) := by rw [h, h2]
set_option maxHeartbeats 1000000 in
theorem implRO_any (s : ByteArray) (A : Option Addr) (c : Nat) (rs : List RuleV) (t : ByteArray) (ht : t.size ≤ maxLen) (w : World) (hA : RRd w A rs) (hn : rs.length ≤ maxLen) (hs : s.size ≤ maxLen) (hz : ∀ r ∈ rs, r.1.size ≤ maxLen ∧ r.2.size ≤ maxLen) :
    Calls Try.prog 33 #[.agg #[.string s, .slice A rs.length c], .string t] w (TextB w (rwV s rs t) (rwB s rs t)) := by
  cases hG : gramB s rs
  · have HN := Lib.hid (rw_no1 (t := t) hG)
    go_enter Try.func33, Try.ntmps33
    go_wp2_with fail
    refine (implVG_any s A c rs _ (by first | exact hA | exact hA.below (below_alloc _ _)) hn hs hz).mono ?_
    rintro e w1 ⟨rfl, k1⟩
    rw [hG]
    go_wp2
    go_ret2
    exact ⟨ret_tb HN.out.2.symm HN.out.1.symm, by first | exact k1 | exact Below.step (below_alloc _ _) k1⟩
  · cases hW : wordB 4000 t.data.toList
    · have HN := Lib.hid (rw_no2 (s := s) (rs := rs) hW)
      go_enter Try.func33, Try.ntmps33
      go_wp2_with fail
      refine (implVG_any s A c rs _ (by first | exact hA | exact hA.below (below_alloc _ _)) hn hs hz).mono ?_
      rintro e w1 ⟨rfl, k1⟩
      rw [hG]
      go_wp2_with fail
      refine (isWord_any t _ ht).mono ?_
      rintro e w2 ⟨rfl, rfl⟩
      rw [hW]
      go_wp2
      go_ret2
      exact ⟨ret_tb HN.out.2.symm HN.out.1.symm, by first | exact k1 | exact Below.step (below_alloc _ _) k1⟩
    · have HY := Lib.hid (rw_yes hG hW)
      have ht2 : t.size ≤ 4000 := by have := word_small hW; have h4 : t.data.toList.length = t.size := Array.length_toList; omega
      go_enter Try.func33, Try.ntmps33
      go_wp2_with fail
      refine (implVG_any s A c rs _ (by first | exact hA | exact hA.below (below_alloc _ _)) hn hs hz).mono ?_
      rintro e w1 ⟨rfl, k1⟩
      rw [hG]
      go_wp2_with fail
      refine (isWord_any t _ ht).mono ?_
      rintro e w2 ⟨rfl, rfl⟩
      rw [hW]
      have K1 : Below w.heap.size w w1 := Below.step (below_alloc _ _) k1
      have f0 : w1.cell? ⟨w.heap.size, 0, none⟩ = some (.string s) := (k1.cell (by simp)).trans (by simp)
      have f1 : w1.cell? ⟨w.heap.size, 1, none⟩ = some (.slice A rs.length c) := (k1.cell (by simp)).trans (by simp)
      clear k1
      go_wp2_with fail
      refine (rewritten_any s t A c rs _ (hA.below K1) hn ht2 (gram_small hG)).mono ?_
      rintro e w3 ⟨rfl, k3⟩
      go_wp2
      go_ret2
      exact ⟨ret_tb HY.out.2.symm HY.out.1.symm, Below.step K1 k3⟩
set_option maxHeartbeats 1000000 in
theorem specRO_any (s : ByteArray) (A : Option Addr) (c : Nat) (rs : List RuleV) (t : ByteArray) (ht : t.size ≤ maxLen) (w : World) (hA : RRd w A rs) (hn : rs.length ≤ maxLen) (hs : s.size ≤ maxLen) (hz : ∀ r ∈ rs, r.1.size ≤ maxLen ∧ r.2.size ≤ maxLen) :
    Calls Try.prog 32 #[.agg #[.string s, .slice A rs.length c], .string t] w (TextB w (rwV s rs t) (rwB s rs t)) := by
  have hA1 := hA.below (below_alloc w (.cells #[.string s, .slice A rs.length c] 25))
  cases hG : gramB s rs
  · have HN := Lib.hid (rw_no1 (t := t) hG)
    go_enter Try.func32, Try.ntmps32
    go_wp2_with fail
    refine (l04Is_any s A c _ rs _ hA1 hn hs hz (by simp) (by simp)).mono ?_
    rintro e w1 ⟨rfl, n, rfl⟩
    rw [hG]
    go_wp2
    go_ret2
    exact ⟨ret_tb HN.out.2.symm HN.out.1.symm, below_drewN (below_alloc _ _) _⟩
  · cases hW : wordB 4000 t.data.toList
    · have HN := Lib.hid (rw_no2 (s := s) (rs := rs) hW)
      go_enter Try.func32, Try.ntmps32
      go_wp2_with fail
      refine (l04Is_any s A c _ rs _ hA1 hn hs hz (by simp) (by simp)).mono ?_
      rintro e w1 ⟨rfl, n, rfl⟩
      rw [hG]
      go_wp2_with fail
      refine (specIsWord_any t _ ht).mono ?_
      rintro e w2 ⟨rfl, rfl⟩
      rw [hW]
      go_wp2
      go_ret2
      exact ⟨ret_tb HN.out.2.symm HN.out.1.symm, below_drewN (below_alloc _ _) _⟩
    · have HY := Lib.hid (rw_yes hG hW)
      have ht2 : t.size ≤ 4000 := by have := word_small hW; have h4 : t.data.toList.length = t.size := Array.length_toList; omega
      go_enter Try.func32, Try.ntmps32
      go_wp2_with fail
      refine (l04Is_any s A c _ rs _ hA1 hn hs hz (by simp) (by simp)).mono ?_
      rintro e w1 ⟨rfl, n, rfl⟩
      rw [hG]
      go_wp2_with fail
      refine (specIsWord_any t _ ht).mono ?_
      rintro e w2 ⟨rfl, rfl⟩
      rw [hW]
      go_wp2_with fail
      refine (l04Once_any t A c _ rs _ (show RRd ((w.alloc (.cells #[.string s, .slice A rs.length c] 25)).drewN n) A rs from hA1) hn ht2 (gram_small hG) (show (w.alloc (.cells #[.string s, .slice A rs.length c] 25)).cell? _ = _ by simp)).mono ?_
      rintro e w3 ⟨rfl, m, rfl⟩
      go_wp2
      go_ret2
      exact ⟨ret_tb HY.out.2.symm HY.out.1.symm, below_drewN (below_alloc _ _) (n + m)⟩
end Go.Proofs.Ytfblpibioegmkaa
