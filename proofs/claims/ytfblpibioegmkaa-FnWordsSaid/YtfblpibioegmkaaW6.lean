/- A grammar, a word, a number that an input chooses. -/
import Derived.Test.YtfblpibioegmkaaW5
namespace Go.Proofs.Ytfblpibioegmkaa
open Go.RowKit

set_option maxRecDepth 100000 in
set_option maxHeartbeats 2000000 in
theorem r8Grammar_any (A : Option Addr) (L c : Nat) (w : World) (hB : BRd w A L) (hL : L ≤ maxLen) :
    Calls Try.prog 48 #[.slice A L c] w fun e w' => ∃ s A' c' rs, e = .returned (.agg #[.string s, .slice A' rs.length c']) ∧ DG s rs ∧ RRd w' A' rs ∧ Below w.heap.size w w' := by
  obtain ⟨w0, hw0⟩ : ∃ w0, w0 = w.alloc (.cells #[.string ⟨#[]⟩, .slice none 0 0] 25) := ⟨_, rfl⟩
  have ka : Below w.heap.size w w0 := by rw [hw0]; exact below_alloc _ _
  have HC0 : Hid (Can w0 w.heap.size) := Lib.hid (by rw [hw0]; exact can_new w (.string ⟨#[]⟩) (.slice none 0 0) 25 _ rfl)
  have hz0 : w.heap.size < w0.heap.size := by rw [hw0]; simp
  have B0 := hB.below ka
  have HW := Lib.hid hw0
  clear hw0 hB
  go_enter Try.func48, Try.ntmps48
  go_wp2_with fail
  rw [← HW.out]
  refine (from_any A L c _ B0).mono ?_
  rintro e w1 ⟨rfl, k1, S1⟩
  have B1 := B0.below k1
  have C1 := HC0.out.below k1
  have K1 := Below.step ka k1
  clear ka k1 B0
  go_wp2_with fail
  refine (drawOk_any w1 _ A L c S1 B1 hL).mono ?_
  rintro e w2 ⟨s, A2, c2, rs, rfl, D, R, hge, K⟩
  have z1 := C1.1
  have K2 : Below w.heap.size w w2 := K.below K1 K1.size (fun b h => by (have h' : b = w0.heap.size := h); omega)
  have C2 : Can w2 w.heap.size := C1.keep K (fun h => by (have h' : w.heap.size = w0.heap.size := h); omega)
  have HR := Lib.hid (And.intro R hge)
  obtain ⟨q0, q1⟩ := C2.read (.string s) (.slice A2 rs.length c2)
  have HQ := Lib.hid (And.intro q0 q1)
  obtain ⟨_, ⟨v0, y0⟩, ⟨v1, y1⟩, zf0, zf1⟩ := C2
  have HD := Lib.hid D
  clear q0 q1 R K D C1 B1 S1 hge K1
  go_wp2
  obtain ⟨q0, q1⟩ := HQ.out
  refine bodyPost_ret (v := .agg #[.string s, .slice A2 rs.length c2]) (by simp [results, Try.results48, go_sem, q0, q1]) rfl ?_
  exact ⟨s, A2, c2, rs, rfl, HD.out, HR.out.1.keep (keep_two _ _ _ _) (fun b o e h => by have := HR.out.2 b o e; (have h' : b = w.heap.size := h); omega), (K2.setCell (Nat.le_refl _) _).setCell (Nat.le_refl _) _⟩
def wordsL : List ByteArray := [⟨#[70]⟩, ⟨#[70]⟩, ⟨#[71]⟩, ⟨#[88]⟩, ⟨#[43]⟩, ⟨#[45]⟩]
theorem words_ok : ∀ t ∈ wordsL, t.size = 1 ∧ t.data.toList.all okc = true := by decide +kernel
set_option maxRecDepth 100000 in
set_option maxHeartbeats 2000000 in
theorem r8Word_any (A : Option Addr) (L c : Nat) (w : World) (hB : BRd w A L) (hL : L ≤ maxLen) :
    Calls Try.prog 50 #[.slice A L c] w fun e w' => ∃ t, e = .returned (.string t) ∧ t.size ≤ 16 ∧ t.data.toList.all okc = true ∧ Below w.heap.size w w' := by
  go_enter Try.func50, Try.ntmps50
  go_wp2_with fail
  refine (from_any A L c _ hB).mono ?_
  rintro e w1 ⟨rfl, k1, S1⟩
  have B1 := hB.below k1
  go_wp2_with fail
  refine (pick_any w1 _ A L c 0 17 S1 B1 (by decide) hL (by decide) (by decide)).mono ?_
  rintro e w2 ⟨x, rfl, hx, K2, S2⟩
  have hp := S1.lt
  obtain ⟨p, hpw⟩ : ∃ p, p = w.heap.size := ⟨_, rfl⟩
  have HPE := Lib.hid hpw
  rw [← hpw] at S2 K2 hp
  have HS2 := Lib.hid S2
  have hK1 : Below w.heap.size w w2 := K2.below k1 k1.size (fun b h => by (have h' : b = p := h); omega)
  have HK1 := Lib.hid hK1
  have hne := S2.ne
  have HNE := Lib.hid hne
  go_wp2_with fail
  rw [← hpw]
  clear S1 S2 K2 hK1 k1 B1 hpw hp hne
  go_loopw [4, 5] (fun tv iv wr => ∃ (i k : Nat) (t : ByteArray), i ≤ x ∧ iv = .int .i64 i ∧ tv = .string t ∧ t.size + i ≤ 16 ∧ Hid (t.data.toList.all okc = true) ∧ k + i ≤ 40 ∧ Hid (Src wr p A L c k) ∧ Hid (Below w.heap.size w wr)) (fun _ iv _ => (intOf iv).toNat)
  case atStart => exact ⟨x, 1, ⟨#[]⟩, Nat.le_refl _, rfl, rfl, by show 0 + x ≤ 16; omega, Lib.hid rfl, by omega, HS2, HK1⟩
  case round =>
    clear HS2 HK1
    obtain ⟨i, k, t, hi, rfl, rfl, hsz, HG, hk, HS, HK⟩ := hrel
    by_cases hlt : 0 < i
    · have hi1 : (0 : Int) < i := by omega
      have hm : IntKind.i64.wrap ((i : Int) - 1) = ((i - 1 : Nat) : Int) := by rw [IntKind.wrap_i64]; omega
      have hpz : wr.heap.size ≠ p := by have := HS.out.lt; omega
      have HM := Lib.hid hm
      clear hm
      go_wp2_with fail
      refine (text_any _ p A L c k (HS.out.below (below_alloc _ _)) ((hB.below HK.out).below (below_alloc _ _)) (by omega) hL wr.heap.size 6 wordsL (by decide) (by decide) (by simp) hpz (cells_texts wr wordsL _)).mono ?_
      rintro e w5 ⟨u, rfl, hu, K5, S5⟩
      obtain ⟨u1, u2⟩ := words_ok u hu
      have HU := Lib.hid (And.intro u1 u2)
      have HS5 := Lib.hid S5
      have HK5 := Lib.hid (K5.below (Below.step HK.out (below_alloc _ _)) (by have := HK.out.size; have := size_alloc_lt wr (.cells (wordsL.map Value.string).toArray 9); exact Nat.le_trans HK.out.size (size_alloc_lt _ _)) (fun b h => by (have h' : b = p := h); have := HPE.out; omega))
      have hts : (t.size : Int) + u.size ≤ 100 := by omega
      clear K5 S5 hu u1 u2
      go_wp2_with fail
      go_roundw
      case rel => exact ⟨i - 1, k + 1, t ++ u, by omega, by go_num, rfl, by rw [ByteArray.size_append, HU.out.1]; omega, Lib.hid (by rw [ByteArray.data_append, Array.toList_append, List.all_append, HG.out, HU.out.2]; rfl), by omega, HS5, HK5⟩
      case measure => simp [intOf]; omega
    · obtain rfl : i = 0 := by omega
      go_wp2
      go_ret
      exact ⟨t, rfl, by omega, HG.out, HK.out⟩
theorem r8At_any (A : Option Addr) (L c : Nat) (k n : Nat) (w : World) (hB : BRd w A L) (_hL : L ≤ maxLen) (_hk : k ≤ 100) (h2 : 2 ≤ n) (h200 : n ≤ 200) :
    Calls Try.prog 49 #[.slice A L c, .int .i64 k, .int .i64 n] w fun e w' => ∃ x : Nat, e = .returned (.int .i64 x) ∧ x < n ∧ w = w' := by
  have hn1 : ¬ (n : Int) ≤ 1 := by omega
  have hn2 : (1 : Int) < n := by omega
  unfold maxLen at _hL
  by_cases hlt : k < L
  · obtain ⟨b, o, x, rfl, hb, hx, hc⟩ := hB k hlt
    have hkL : ¬ (L : Int) ≤ k := by omega
    have hm : (x : Int) % n = ((x % n : Nat) : Int) := by omega
    have hl : x % n < n := Nat.mod_lt _ (by omega)
    have HM := Lib.hid hm
    generalize x % n = m at hl HM
    clear hm
    go_enter Try.func49, Try.ntmps49
    go_wp2
    go_ret
    exact ⟨m, ret_i HM.out, hl, rfl⟩
  · have hkL : (L : Int) ≤ k := by omega
    go_enter Try.func49, Try.ntmps49
    go_wp2
    go_ret
    exact ⟨0, rfl, by omega, rfl⟩
theorem r8Long_any (A B : Option Addr) (L c M d : Nat) (w : World) :
    Calls Try.prog 47 #[.slice A L c, .slice B M d] w fun e w' => e = .returned (.bool (decide (48 < L) || decide (48 < M))) ∧ w = w' := by
  by_cases h1 : (48 : Int) < L
  · have h1' : decide (48 < L) = true := decide_eq_true (by omega)
    have H1 := Lib.hid h1'
    clear h1'
    go_enter Try.func47, Try.ntmps47
    go_wp2
    go_ret
    exact ⟨ret_bool (by rw [H1.out]; rfl), rfl⟩
  · have h1' : decide (48 < L) = false := decide_eq_false (by omega)
    have H1 := Lib.hid h1'
    clear h1'
    by_cases h2 : (48 : Int) < M
    · have h2' : decide (48 < M) = true := decide_eq_true (by omega)
      have H2 := Lib.hid h2'
      clear h2'
      go_enter Try.func47, Try.ntmps47
      go_wp2
      go_ret
      exact ⟨ret_bool (by rw [H1.out, H2.out]; rfl), rfl⟩
    · have h2' : decide (48 < M) = false := decide_eq_false (by omega)
      have H2 := Lib.hid h2'
      clear h2'
      go_enter Try.func47, Try.ntmps47
      go_wp2
      go_ret
      exact ⟨ret_bool (by rw [H1.out, H2.out]; rfl), rfl⟩
end Go.Proofs.Ytfblpibioegmkaa
