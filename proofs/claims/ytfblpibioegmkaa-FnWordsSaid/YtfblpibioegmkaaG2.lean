/- Valid grammars, both sides. -/
import Derived.Test.YtfblpibioegmkaaG1
import Derived.Deep.RegionHeld3
namespace Go.Proofs.Ytfblpibioegmkaa
open Go.RowKit

def hdI (s : ByteArray) : Int := ((s.data.toList.headD 0).toNat : Int)
theorem hd_eq {s : ByteArray} (h : 0 < s.size) : (s[0].toNat : Int) = hdI s := by
  obtain ⟨a⟩ := s
  obtain ⟨l⟩ := a
  cases l with
  | nil => simp [ByteArray.size] at h
  | cons c l => rfl
def ltrB (s : ByteArray) : Bool := decide (s.size = 1) && ltr (hdI s)
def ruleB (r : RuleV) : Bool := ltrB r.1 && wordB 32 r.2.data.toList
theorem short_word {s : ByteArray} (h : s.size ≤ 32) : wordB 4000 s.data.toList = wordB 32 s.data.toList := by
  have h' : s.data.toList.length = s.size := Array.length_toList
  unfold wordB
  rw [h', decide_eq_true (by omega), decide_eq_true (by omega)]
theorem long_word {s : ByteArray} (h : ¬ s.size ≤ 32) : wordB 32 s.data.toList = false := by
  have h' : s.data.toList.length = s.size := Array.length_toList
  unfold wordB
  rw [h', decide_eq_false (by omega)]; rfl
theorem isShort_any (s : ByteArray) (w : World) (hs : s.size ≤ maxLen) : Calls Try.prog 63 #[.string s] w fun e w' => e = .returned (.bool (wordB 32 s.data.toList)) ∧ w = w' := by
  by_cases h : s.size ≤ 32
  · have hw := Lib.hid (short_word h)
    have h' : (s.size : Int) ≤ 32 := by omega
    go_enter Try.func63, Try.ntmps63
    go_wp2_with (go_at_call 16; refine (isWord_any _ _ hs).mono ?_; rintro e w' ⟨rfl, rfl⟩)
    go_ret
    exact ⟨ret_bool hw.out, rfl⟩
  · have hw := Lib.hid (long_word h)
    have h' : ¬ (s.size : Int) ≤ 32 := by omega
    go_enter Try.func63, Try.ntmps63
    go_wp2
    go_ret
    exact ⟨ret_bool hw.out.symm, rfl⟩
theorem ruleB_no {r : RuleV} (h : ltrB r.1 = false) : ruleB r = false := by unfold ruleB; rw [h]; rfl
theorem ltrB_size {s : ByteArray} (h : ¬ s.size = 1) : ltrB s = false := by unfold ltrB; rw [decide_eq_false h]; rfl
theorem ltrB_one {s : ByteArray} (h : s.size = 1) : ltrB s = ltr (hdI s) := by unfold ltrB; rw [decide_eq_true h]; rfl
theorem isRule_any (r : RuleV) (w : World) (_h1 : r.1.size ≤ maxLen) (h2 : r.2.size ≤ maxLen) : Calls Try.prog 62 #[.agg #[.string r.1, .string r.2]] w fun e w' => e = .returned (.bool (ruleB r)) ∧ Below w.heap.size w w' := by
  by_cases a1 : r.1.size = 1
  · have a1' : (r.1.size : Int) = 1 := by omega
    have h0 : 0 < r.1.size := by omega
    have e0 := hd_eq h0
    have hR : Hid (ruleB r = (ltr (hdI r.1) && wordB 32 r.2.data.toList)) := Lib.hid (by unfold ruleB; rw [ltrB_one a1])
    clear a1
    go_enter Try.func62, Try.ntmps62
    go_wp2_with fail
    refine (isLetter_any _ _).mono ?_
    rintro e w1 ⟨rfl, rfl⟩
    cases hl : ltr (hdI r.1)
    · go_wp2
      go_ret
      exact ⟨ret_bool (by rw [hR.out, hl]; rfl), by go_grown⟩
    · go_wp2_with fail
      refine (isShort_any _ _ h2).mono ?_
      rintro e w1 ⟨rfl, rfl⟩
      go_wp2
      go_ret
      exact ⟨ret_bool (by rw [hR.out, hl]; rfl), by go_grown⟩
  · have a1' : ¬ (r.1.size : Int) = 1 := by omega
    have hR := Lib.hid (ruleB_no (ltrB_size a1))
    clear a1
    go_enter Try.func62, Try.ntmps62
    go_wp2
    go_ret
    exact ⟨ret_bool hR.out.symm, by go_grown⟩
theorem l04Rule_any (r : RuleV) (b o : Nat) (w : World) (h2 : r.2.size ≤ maxLen) (c0 : w.cell? ⟨b, o, none⟩ = some (.string r.1)) (c1 : w.cell? ⟨b, o + 1, none⟩ = some (.string r.2)) :
    Calls Try.prog 71 #[.pointer (some ⟨b, o, none⟩)] w fun e w' => e = .returned (.bool (ruleB r)) ∧ w = w' := by
  by_cases a1 : r.1.size = 1
  · have a1' : (r.1.size : Int) = 1 := by omega
    have h0 : 0 < r.1.size := by omega
    have e0 := hd_eq h0
    have hR : Hid (ruleB r = (ltr (hdI r.1) && wordB 32 r.2.data.toList)) := Lib.hid (by unfold ruleB; rw [ltrB_one a1])
    clear a1
    by_cases g1 : 65 ≤ hdI r.1
    · by_cases g2 : hdI r.1 ≤ 90
      · go_enter Try.func71, Try.ntmps71
        go_wp2_with fail
        refine (l04Word_any _ _ _ h2).mono ?_
        rintro e w1 ⟨rfl, rfl⟩
        go_wp2
        go_ret
        exact ⟨ret_bool (by rw [hR.out]; unfold ltr; rw [decide_eq_true g1, decide_eq_true g2]; rfl), rfl⟩
      · go_enter Try.func71, Try.ntmps71
        go_wp2
        go_ret
        exact ⟨ret_bool (by rw [hR.out]; unfold ltr; rw [decide_eq_true g1, decide_eq_false (by omega)]; rfl), rfl⟩
    · go_enter Try.func71, Try.ntmps71
      go_wp2
      go_ret
      exact ⟨ret_bool (by rw [hR.out]; unfold ltr; rw [decide_eq_false (by omega)]; rfl), rfl⟩
  · have a1' : ¬ (r.1.size : Int) = 1 := by omega
    have hR := Lib.hid (ruleB_no (ltrB_size a1))
    clear a1
    go_enter Try.func71, Try.ntmps71
    go_wp2
    go_ret
    exact ⟨ret_bool hR.out.symm, rfl⟩
/-- The letter of the rule at place k lies behind that of the rule before. -/
def leB (a b : ByteArray) : Bool := Op.bytesLess a.toList b.toList || a.toList == b.toList
def okAt (rs : List RuleV) (k : Nat) : Bool := ruleB (rs.getD k (⟨#[]⟩, ⟨#[]⟩)) && (decide (k = 0) || !leB (rs.getD k (⟨#[]⟩, ⟨#[]⟩)).1 (rs.getD (k - 1) (⟨#[]⟩, ⟨#[]⟩)).1)
def rulesB (rs : List RuleV) : Bool := (List.range rs.length).all (okAt rs)
theorem dec8 (n : Nat) : decide ((n : Int) ≤ 8) = decide (n ≤ 8) := by rw [decide_eq_decide]; omega
/-- A grammar that is valid. -/
def gramB (s : ByteArray) (rs : List RuleV) : Bool := rulesB rs && (wordB 32 s.data.toList && decide (rs.length ≤ 8))
theorem rulesB_bad {rs : List RuleV} {k : Nat} (hk : k < rs.length) (h : okAt rs k = false) : rulesB rs = false := by
  unfold rulesB
  rw [List.all_eq_false]
  exact ⟨k, List.mem_range.2 hk, by rw [h]; simp⟩
theorem okAt_at {rs : List RuleV} {k : Nat} (hk : k < rs.length) : rs.getD k (⟨#[]⟩, ⟨#[]⟩) = rs[k] := by simp [hk]
set_option maxRecDepth 100000 in
set_option maxHeartbeats 4000000 in
theorem implVG_any (s : ByteArray) (A : Option Addr) (c : Nat) (rs : List RuleV) (w : World) (hA : RRd w A rs) (hn : rs.length ≤ maxLen) (hs : s.size ≤ maxLen) (hz : ∀ r ∈ rs, r.1.size ≤ maxLen ∧ r.2.size ≤ maxLen) :
    Calls Try.prog 31 #[.agg #[.string s, .slice A rs.length c]] w fun e w' => e = .returned (.bool (gramB s rs)) ∧ Below w.heap.size w w' := by
  unfold maxLen at hn
  obtain ⟨w0, hw0⟩ : ∃ w0, w0 = w.alloc (.cells #[.string s, .slice A rs.length c] 25) := ⟨_, rfl⟩
  have b0 : w0.cell? ⟨w.heap.size, 0, none⟩ = some (.string s) := by rw [hw0]; simp
  have b1 : w0.cell? ⟨w.heap.size, 1, none⟩ = some (.slice A rs.length c) := by rw [hw0]; simp
  have K0 : Below w.heap.size w w0 := by rw [hw0]; exact below_alloc _ _
  have z0 : w.heap.size < w0.heap.size := by rw [hw0, World.size_alloc]; omega
  have hA0 : RRd w0 A rs := hA.below K0
  go_enter Try.func31, Try.ntmps31
  go_wp2_with fail
  rw [← hw0]
  clear hw0
  go_loopw [8] (fun iv wr => ∃ k : Nat, k ≤ rs.length ∧ iv = .int .i64 k ∧ Hid ((List.range k).all (okAt rs) = true) ∧ Below w0.heap.size w0 wr) (fun iv _ => rs.length - (intOf iv).toNat)
  case atStart => exact ⟨0, Nat.zero_le _, rfl, Lib.hid rfl, Below.refl _ _⟩
  case round =>
    obtain ⟨k, hk, rfl, HO, hbel⟩ := hrel
    by_cases hlt : k < rs.length
    · obtain ⟨b, o, rfl, hb, d0, d1⟩ := hA0 k rs[k] (by simp [hlt])
      have e0 := (hbel.cell hb).trans d0
      have e1 := (hbel.cell hb).trans d1
      have f1 := (hbel.cell (p := ⟨w.heap.size, 1, none⟩) z0).trans b1
      obtain ⟨y0, y1⟩ := hz rs[k] (List.getElem_mem hlt)
      have hg := Lib.hid (okAt_at hlt)
      generalize rs[k] = r at e0 e1 y0 y1 hg
      clear d0 d1
      go_wp2_with fail
      obtain ⟨wa, hwa⟩ : ∃ wa, wa = wr.alloc (.cells #[.string r.1, .string r.2] 55) := ⟨_, rfl⟩
      have p0 : wa.cell? ⟨wr.heap.size, 0, none⟩ = some (.string r.1) := by rw [hwa]; simp
      have p1 : wa.cell? ⟨wr.heap.size, 1, none⟩ = some (.string r.2) := by rw [hwa]; simp
      have zp : wr.heap.size < wa.heap.size := by rw [hwa, World.size_alloc]; omega
      have ka : Below wr.heap.size wr wa := by rw [hwa]; exact below_alloc _ _
      have zr := hbel.size
      have za : w.heap.size < wa.heap.size := by omega
      have f1 := (ka.cell (p := ⟨w.heap.size, 1, none⟩) (by show w.heap.size < _; omega)).trans f1
      have Ka := Below.step hbel ka
      rw [← hwa]
      clear hwa ka e0 e1
      cases hR : ruleB r
      · have hno : Hid (okAt rs k = false) := Lib.hid (by unfold okAt; rw [hg.out, hR]; rfl)
        first | refine wp_region_noPanic ?_ | skip
        refine wp_region_held_drew (S := fun w' => w'.cell? ⟨wr.heap.size, 0, none⟩ = some (.string r.1) ∧ w'.cell? ⟨wr.heap.size, 1, none⟩ = some (.string r.2) ∧ Below w0.heap.size w0 w') (by kernel_rfl) (by exact ⟨p0, p1, Ka.drew⟩) (fun hHeld => ?_)
        first
          | (refine wpAnyH_take (i := 0) (oi := ?oi0A) (v := ?v0A) ?hi0A (by kernel_rfl) (by kernel_rfl) (by kernel_rfl) (fun _ _ _ h => h) (Or.inl ⟨?hw0A, ?hy0A⟩) hHeld ?rest0A
             case hi0A => (simp only [List.getElem?_toArray, List.getElem?_cons_zero]; rfl)
             case hw0A => (first | rfl | (simp [Region.wanted, yielded]; done))
             case hy0A => (intro w hSw; (try dsimp only at hSw); go_simp; try with_reducible rfl)
             try simp only [Act.put, List.setIfInBounds_toArray, List.set_cons_zero, List.set_cons_succ])
          | (refine wpAnyH_take (i := 0) (oi := ?oj0A) (v := undef) ?hj0A (by kernel_rfl) (by kernel_rfl) (by kernel_rfl) (fun _ _ _ h => h) (Or.inr ⟨?hx0A, rfl⟩) hHeld ?more0A
             case hj0A => (simp only [List.getElem?_toArray, List.getElem?_cons_zero]; rfl)
             case hx0A => (first | rfl | (simp [Region.wanted, yielded]; done))
             try simp only [Act.put, List.setIfInBounds_toArray, List.set_cons_zero, List.set_cons_succ])
          | fail
        refine wpAnyH_ready (rs := [1]) (by kernel_rfl) (by simp) ?_
        refine AllReadyH.cons rfl (fun K hK => ?_) AllReadyH.nil
        go_simp
        refine (isRule_any r _ y0 y1).mono ?_
        rintro e w2 ⟨rfl, hbl⟩
        rw [hR]
        have hb2 := Below.step Ka.drew hbl
        go_simp
        refine hK.out _ _ (by exact ⟨(hbl.cell (p := ⟨wr.heap.size, 0, none⟩) zp).trans p0, (hbl.cell (p := ⟨wr.heap.size, 1, none⟩) zp).trans p1, hb2⟩) (fun hHeld => ?_)
        clear hK K
        try simp only [Act.put, List.setIfInBounds_toArray, List.set_cons_zero, List.set_cons_succ]
        first
          | (refine wpAnyH_take (i := 2) (oi := ?oi2A) (v := ?v2A) ?hi2A (by kernel_rfl) (by kernel_rfl) (by kernel_rfl) (fun _ _ _ h => h) (Or.inl ⟨?hw2A, ?hy2A⟩) hHeld ?rest2A
             case hi2A => (simp only [List.getElem?_toArray, List.getElem?_cons_succ, List.getElem?_cons_zero]; rfl)
             case hw2A => (first | rfl | (simp [Region.wanted, yielded]; done))
             case hy2A => (intro w hSw; (try dsimp only at hSw); go_simp; try with_reducible rfl)
             try simp only [Act.put, List.setIfInBounds_toArray, List.set_cons_zero, List.set_cons_succ])
          | (refine wpAnyH_take (i := 2) (oi := ?oj2A) (v := undef) ?hj2A (by kernel_rfl) (by kernel_rfl) (by kernel_rfl) (fun _ _ _ h => h) (Or.inr ⟨?hx2A, rfl⟩) hHeld ?more2A
             case hj2A => (simp only [List.getElem?_toArray, List.getElem?_cons_succ, List.getElem?_cons_zero]; rfl)
             case hx2A => (first | rfl | (simp [Region.wanted, yielded]; done))
             try simp only [Act.put, List.setIfInBounds_toArray, List.set_cons_zero, List.set_cons_succ])
          | fail
        first
          | (refine wpAnyH_take (i := 3) (oi := ?oi3A) (v := ?v3A) ?hi3A (by kernel_rfl) (by kernel_rfl) (by kernel_rfl) (fun _ _ _ h => h) (Or.inl ⟨?hw3A, ?hy3A⟩) hHeld ?rest3A
             case hi3A => (simp only [List.getElem?_toArray, List.getElem?_cons_succ, List.getElem?_cons_zero]; rfl)
             case hw3A => (first | rfl | (simp [Region.wanted, yielded]; done))
             case hy3A => (intro w hSw; (try dsimp only at hSw); go_simp; try with_reducible rfl)
             try simp only [Act.put, List.setIfInBounds_toArray, List.set_cons_zero, List.set_cons_succ])
          | (refine wpAnyH_take (i := 3) (oi := ?oj3A) (v := undef) ?hj3A (by kernel_rfl) (by kernel_rfl) (by kernel_rfl) (fun _ _ _ h => h) (Or.inr ⟨?hx3A, rfl⟩) hHeld ?more3A
             case hj3A => (simp only [List.getElem?_toArray, List.getElem?_cons_succ, List.getElem?_cons_zero]; rfl)
             case hx3A => (first | rfl | (simp [Region.wanted, yielded]; done))
             try simp only [Act.put, List.setIfInBounds_toArray, List.set_cons_zero, List.set_cons_succ])
          | fail
        first
          | (refine wpAnyH_take (i := 4) (oi := ?oi4A) (v := ?v4A) ?hi4A (by kernel_rfl) (by kernel_rfl) (by kernel_rfl) (fun _ _ _ h => h) (Or.inl ⟨?hw4A, ?hy4A⟩) hHeld ?rest4A
             case hi4A => (simp only [List.getElem?_toArray, List.getElem?_cons_succ, List.getElem?_cons_zero]; rfl)
             case hw4A => (first | rfl | (simp [Region.wanted, yielded]; done))
             case hy4A => (intro w hSw; (try dsimp only at hSw); go_simp; try with_reducible rfl)
             try simp only [Act.put, List.setIfInBounds_toArray, List.set_cons_zero, List.set_cons_succ])
          | (refine wpAnyH_take (i := 4) (oi := ?oj4A) (v := undef) ?hj4A (by kernel_rfl) (by kernel_rfl) (by kernel_rfl) (fun _ _ _ h => h) (Or.inr ⟨?hx4A, rfl⟩) hHeld ?more4A
             case hj4A => (simp only [List.getElem?_toArray, List.getElem?_cons_succ, List.getElem?_cons_zero]; rfl)
             case hx4A => (first | rfl | (simp [Region.wanted, yielded]; done))
             try simp only [Act.put, List.setIfInBounds_toArray, List.set_cons_zero, List.set_cons_succ])
          | fail
        first
          | (refine wpAnyH_take (i := 5) (oi := ?oi5A) (v := ?v5A) ?hi5A (by kernel_rfl) (by kernel_rfl) (by kernel_rfl) (fun _ _ _ h => h) (Or.inl ⟨?hw5A, ?hy5A⟩) hHeld ?rest5A
             case hi5A => (simp only [List.getElem?_toArray, List.getElem?_cons_succ, List.getElem?_cons_zero]; rfl)
             case hw5A => (first | rfl | (simp [Region.wanted, yielded]; done))
             case hy5A => (intro w hSw; (try dsimp only at hSw); go_simp; try with_reducible rfl)
             try simp only [Act.put, List.setIfInBounds_toArray, List.set_cons_zero, List.set_cons_succ])
          | (refine wpAnyH_take (i := 5) (oi := ?oj5A) (v := undef) ?hj5A (by kernel_rfl) (by kernel_rfl) (by kernel_rfl) (fun _ _ _ h => h) (Or.inr ⟨?hx5A, rfl⟩) hHeld ?more5A
             case hj5A => (simp only [List.getElem?_toArray, List.getElem?_cons_succ, List.getElem?_cons_zero]; rfl)
             case hx5A => (first | rfl | (simp [Region.wanted, yielded]; done))
             try simp only [Act.put, List.setIfInBounds_toArray, List.set_cons_zero, List.set_cons_succ])
          | fail
        first
          | (refine wpAnyH_take (i := 6) (oi := ?oi6A) (v := ?v6A) ?hi6A (by kernel_rfl) (by kernel_rfl) (by kernel_rfl) (fun _ _ _ h => h) (Or.inl ⟨?hw6A, ?hy6A⟩) hHeld ?rest6A
             case hi6A => (simp only [List.getElem?_toArray, List.getElem?_cons_succ, List.getElem?_cons_zero]; rfl)
             case hw6A => (first | rfl | (simp [Region.wanted, yielded]; done))
             case hy6A => (intro w hSw; (try dsimp only at hSw); go_simp; try with_reducible rfl)
             try simp only [Act.put, List.setIfInBounds_toArray, List.set_cons_zero, List.set_cons_succ])
          | (refine wpAnyH_take (i := 6) (oi := ?oj6A) (v := undef) ?hj6A (by kernel_rfl) (by kernel_rfl) (by kernel_rfl) (fun _ _ _ h => h) (Or.inr ⟨?hx6A, rfl⟩) hHeld ?more6A
             case hj6A => (simp only [List.getElem?_toArray, List.getElem?_cons_succ, List.getElem?_cons_zero]; rfl)
             case hx6A => (first | rfl | (simp [Region.wanted, yielded]; done))
             try simp only [Act.put, List.setIfInBounds_toArray, List.set_cons_zero, List.set_cons_succ])
          | fail
        first
          | (refine wpAnyH_take (i := 7) (oi := ?oi7A) (v := ?v7A) ?hi7A (by kernel_rfl) (by kernel_rfl) (by kernel_rfl) (fun _ _ _ h => h) (Or.inl ⟨?hw7A, ?hy7A⟩) hHeld ?rest7A
             case hi7A => (simp only [List.getElem?_toArray, List.getElem?_cons_succ, List.getElem?_cons_zero]; rfl)
             case hw7A => (first | rfl | (simp [Region.wanted, yielded]; done))
             case hy7A => (intro w hSw; (try dsimp only at hSw); go_simp; try with_reducible rfl)
             try simp only [Act.put, List.setIfInBounds_toArray, List.set_cons_zero, List.set_cons_succ])
          | (refine wpAnyH_take (i := 7) (oi := ?oj7A) (v := undef) ?hj7A (by kernel_rfl) (by kernel_rfl) (by kernel_rfl) (fun _ _ _ h => h) (Or.inr ⟨?hx7A, rfl⟩) hHeld ?more7A
             case hj7A => (simp only [List.getElem?_toArray, List.getElem?_cons_succ, List.getElem?_cons_zero]; rfl)
             case hx7A => (first | rfl | (simp [Region.wanted, yielded]; done))
             try simp only [Act.put, List.setIfInBounds_toArray, List.set_cons_zero, List.set_cons_succ])
          | fail
        first
          | (refine wpAnyH_take (i := 8) (oi := ?oi8A) (v := ?v8A) ?hi8A (by kernel_rfl) (by kernel_rfl) (by kernel_rfl) (fun _ _ _ h => h) (Or.inl ⟨?hw8A, ?hy8A⟩) hHeld ?rest8A
             case hi8A => (simp only [List.getElem?_toArray, List.getElem?_cons_succ, List.getElem?_cons_zero]; rfl)
             case hw8A => (first | rfl | (simp [Region.wanted, yielded]; done))
             case hy8A => (intro w hSw; (try dsimp only at hSw); go_simp; try with_reducible rfl)
             try simp only [Act.put, List.setIfInBounds_toArray, List.set_cons_zero, List.set_cons_succ])
          | (refine wpAnyH_take (i := 8) (oi := ?oj8A) (v := undef) ?hj8A (by kernel_rfl) (by kernel_rfl) (by kernel_rfl) (fun _ _ _ h => h) (Or.inr ⟨?hx8A, rfl⟩) hHeld ?more8A
             case hj8A => (simp only [List.getElem?_toArray, List.getElem?_cons_succ, List.getElem?_cons_zero]; rfl)
             case hx8A => (first | rfl | (simp [Region.wanted, yielded]; done))
             try simp only [Act.put, List.setIfInBounds_toArray, List.set_cons_zero, List.set_cons_succ])
          | fail
        first
          | (refine wpAnyH_take (i := 9) (oi := ?oi9A) (v := ?v9A) ?hi9A (by kernel_rfl) (by kernel_rfl) (by kernel_rfl) (fun _ _ _ h => h) (Or.inl ⟨?hw9A, ?hy9A⟩) hHeld ?rest9A
             case hi9A => (simp only [List.getElem?_toArray, List.getElem?_cons_succ, List.getElem?_cons_zero]; rfl)
             case hw9A => (first | rfl | (simp [Region.wanted, yielded]; done))
             case hy9A => (intro w hSw; (try dsimp only at hSw); go_simp; try with_reducible rfl)
             try simp only [Act.put, List.setIfInBounds_toArray, List.set_cons_zero, List.set_cons_succ])
          | (refine wpAnyH_take (i := 9) (oi := ?oj9A) (v := undef) ?hj9A (by kernel_rfl) (by kernel_rfl) (by kernel_rfl) (fun _ _ _ h => h) (Or.inr ⟨?hx9A, rfl⟩) hHeld ?more9A
             case hj9A => (simp only [List.getElem?_toArray, List.getElem?_cons_succ, List.getElem?_cons_zero]; rfl)
             case hx9A => (first | rfl | (simp [Region.wanted, yielded]; done))
             try simp only [Act.put, List.setIfInBounds_toArray, List.set_cons_zero, List.set_cons_succ])
          | fail
        first
          | (refine wpAnyH_take (i := 10) (oi := ?oi10A) (v := ?v10A) ?hi10A (by kernel_rfl) (by kernel_rfl) (by kernel_rfl) (fun _ _ _ h => h) (Or.inl ⟨?hw10A, ?hy10A⟩) hHeld ?rest10A
             case hi10A => (simp only [List.getElem?_toArray, List.getElem?_cons_succ, List.getElem?_cons_zero]; rfl)
             case hw10A => (first | rfl | (simp [Region.wanted, yielded]; done))
             case hy10A => (intro w hSw; (try dsimp only at hSw); go_simp; try with_reducible rfl)
             try simp only [Act.put, List.setIfInBounds_toArray, List.set_cons_zero, List.set_cons_succ])
          | (refine wpAnyH_take (i := 10) (oi := ?oj10A) (v := undef) ?hj10A (by kernel_rfl) (by kernel_rfl) (by kernel_rfl) (fun _ _ _ h => h) (Or.inr ⟨?hx10A, rfl⟩) hHeld ?more10A
             case hj10A => (simp only [List.getElem?_toArray, List.getElem?_cons_succ, List.getElem?_cons_zero]; rfl)
             case hx10A => (first | rfl | (simp [Region.wanted, yielded]; done))
             try simp only [Act.put, List.setIfInBounds_toArray, List.set_cons_zero, List.set_cons_succ])
          | fail
        first
          | (refine wpAnyH_take (i := 11) (oi := ?oi11A) (v := ?v11A) ?hi11A (by kernel_rfl) (by kernel_rfl) (by kernel_rfl) (fun _ _ _ h => h) (Or.inl ⟨?hw11A, ?hy11A⟩) hHeld ?rest11A
             case hi11A => (simp only [List.getElem?_toArray, List.getElem?_cons_succ, List.getElem?_cons_zero]; rfl)
             case hw11A => (first | rfl | (simp [Region.wanted, yielded]; done))
             case hy11A => (intro w hSw; (try dsimp only at hSw); go_simp; try with_reducible rfl)
             try simp only [Act.put, List.setIfInBounds_toArray, List.set_cons_zero, List.set_cons_succ])
          | (refine wpAnyH_take (i := 11) (oi := ?oj11A) (v := undef) ?hj11A (by kernel_rfl) (by kernel_rfl) (by kernel_rfl) (fun _ _ _ h => h) (Or.inr ⟨?hx11A, rfl⟩) hHeld ?more11A
             case hj11A => (simp only [List.getElem?_toArray, List.getElem?_cons_succ, List.getElem?_cons_zero]; rfl)
             case hx11A => (first | rfl | (simp [Region.wanted, yielded]; done))
             try simp only [Act.put, List.setIfInBounds_toArray, List.set_cons_zero, List.set_cons_succ])
          | fail
        first
          | (refine wpAnyH_take (i := 12) (oi := ?oi12A) (v := ?v12A) ?hi12A (by kernel_rfl) (by kernel_rfl) (by kernel_rfl) (fun _ _ _ h => h) (Or.inl ⟨?hw12A, ?hy12A⟩) hHeld ?rest12A
             case hi12A => (simp only [List.getElem?_toArray, List.getElem?_cons_succ, List.getElem?_cons_zero]; rfl)
             case hw12A => (first | rfl | (simp [Region.wanted, yielded]; done))
             case hy12A => (intro w hSw; (try dsimp only at hSw); go_simp; try with_reducible rfl)
             try simp only [Act.put, List.setIfInBounds_toArray, List.set_cons_zero, List.set_cons_succ])
          | (refine wpAnyH_take (i := 12) (oi := ?oj12A) (v := undef) ?hj12A (by kernel_rfl) (by kernel_rfl) (by kernel_rfl) (fun _ _ _ h => h) (Or.inr ⟨?hx12A, rfl⟩) hHeld ?more12A
             case hj12A => (simp only [List.getElem?_toArray, List.getElem?_cons_succ, List.getElem?_cons_zero]; rfl)
             case hx12A => (first | rfl | (simp [Region.wanted, yielded]; done))
             try simp only [Act.put, List.setIfInBounds_toArray, List.set_cons_zero, List.set_cons_succ])
          | fail
        first
          | (refine wpAnyH_take (i := 13) (oi := ?oi13A) (v := ?v13A) ?hi13A (by kernel_rfl) (by kernel_rfl) (by kernel_rfl) (fun _ _ _ h => h) (Or.inl ⟨?hw13A, ?hy13A⟩) hHeld ?rest13A
             case hi13A => (simp only [List.getElem?_toArray, List.getElem?_cons_succ, List.getElem?_cons_zero]; rfl)
             case hw13A => (first | rfl | (simp [Region.wanted, yielded]; done))
             case hy13A => (intro w hSw; (try dsimp only at hSw); go_simp; try with_reducible rfl)
             try simp only [Act.put, List.setIfInBounds_toArray, List.set_cons_zero, List.set_cons_succ])
          | (refine wpAnyH_take (i := 13) (oi := ?oj13A) (v := undef) ?hj13A (by kernel_rfl) (by kernel_rfl) (by kernel_rfl) (fun _ _ _ h => h) (Or.inr ⟨?hx13A, rfl⟩) hHeld ?more13A
             case hj13A => (simp only [List.getElem?_toArray, List.getElem?_cons_succ, List.getElem?_cons_zero]; rfl)
             case hx13A => (first | rfl | (simp [Region.wanted, yielded]; done))
             try simp only [Act.put, List.setIfInBounds_toArray, List.set_cons_zero, List.set_cons_succ])
          | fail
        first
          | (refine wpAnyH_take (i := 14) (oi := ?oi14A) (v := ?v14A) ?hi14A (by kernel_rfl) (by kernel_rfl) (by kernel_rfl) (fun _ _ _ h => h) (Or.inl ⟨?hw14A, ?hy14A⟩) hHeld ?rest14A
             case hi14A => (simp only [List.getElem?_toArray, List.getElem?_cons_succ, List.getElem?_cons_zero]; rfl)
             case hw14A => (first | rfl | (simp [Region.wanted, yielded]; done))
             case hy14A => (intro w hSw; (try dsimp only at hSw); go_simp; try with_reducible rfl)
             try simp only [Act.put, List.setIfInBounds_toArray, List.set_cons_zero, List.set_cons_succ])
          | (refine wpAnyH_take (i := 14) (oi := ?oj14A) (v := undef) ?hj14A (by kernel_rfl) (by kernel_rfl) (by kernel_rfl) (fun _ _ _ h => h) (Or.inr ⟨?hx14A, rfl⟩) hHeld ?more14A
             case hj14A => (simp only [List.getElem?_toArray, List.getElem?_cons_succ, List.getElem?_cons_zero]; rfl)
             case hx14A => (first | rfl | (simp [Region.wanted, yielded]; done))
             try simp only [Act.put, List.setIfInBounds_toArray, List.set_cons_zero, List.set_cons_succ])
          | fail
        first
          | (refine wpAnyH_take (i := 15) (oi := ?oi15A) (v := ?v15A) ?hi15A (by kernel_rfl) (by kernel_rfl) (by kernel_rfl) (fun _ _ _ h => h) (Or.inl ⟨?hw15A, ?hy15A⟩) hHeld ?rest15A
             case hi15A => (simp only [List.getElem?_toArray, List.getElem?_cons_succ, List.getElem?_cons_zero]; rfl)
             case hw15A => (first | rfl | (simp [Region.wanted, yielded]; done))
             case hy15A => (intro w hSw; (try dsimp only at hSw); go_simp; try with_reducible rfl)
             try simp only [Act.put, List.setIfInBounds_toArray, List.set_cons_zero, List.set_cons_succ])
          | (refine wpAnyH_take (i := 15) (oi := ?oj15A) (v := undef) ?hj15A (by kernel_rfl) (by kernel_rfl) (by kernel_rfl) (fun _ _ _ h => h) (Or.inr ⟨?hx15A, rfl⟩) hHeld ?more15A
             case hj15A => (simp only [List.getElem?_toArray, List.getElem?_cons_succ, List.getElem?_cons_zero]; rfl)
             case hx15A => (first | rfl | (simp [Region.wanted, yielded]; done))
             try simp only [Act.put, List.setIfInBounds_toArray, List.set_cons_zero, List.set_cons_succ])
          | fail
        first
          | (refine wpAnyH_take (i := 16) (oi := ?oi16A) (v := ?v16A) ?hi16A (by kernel_rfl) (by kernel_rfl) (by kernel_rfl) (fun _ _ _ h => h) (Or.inl ⟨?hw16A, ?hy16A⟩) hHeld ?rest16A
             case hi16A => (simp only [List.getElem?_toArray, List.getElem?_cons_succ, List.getElem?_cons_zero]; rfl)
             case hw16A => (first | rfl | (simp [Region.wanted, yielded]; done))
             case hy16A => (intro w hSw; (try dsimp only at hSw); go_simp; try with_reducible rfl)
             try simp only [Act.put, List.setIfInBounds_toArray, List.set_cons_zero, List.set_cons_succ])
          | (refine wpAnyH_take (i := 16) (oi := ?oj16A) (v := undef) ?hj16A (by kernel_rfl) (by kernel_rfl) (by kernel_rfl) (fun _ _ _ h => h) (Or.inr ⟨?hx16A, rfl⟩) hHeld ?more16A
             case hj16A => (simp only [List.getElem?_toArray, List.getElem?_cons_succ, List.getElem?_cons_zero]; rfl)
             case hx16A => (first | rfl | (simp [Region.wanted, yielded]; done))
             try simp only [Act.put, List.setIfInBounds_toArray, List.set_cons_zero, List.set_cons_succ])
          | fail
        first
          | (refine wpAnyH_take (i := 17) (oi := ?oi17A) (v := ?v17A) ?hi17A (by kernel_rfl) (by kernel_rfl) (by kernel_rfl) (fun _ _ _ h => h) (Or.inl ⟨?hw17A, ?hy17A⟩) hHeld ?rest17A
             case hi17A => (simp only [List.getElem?_toArray, List.getElem?_cons_succ, List.getElem?_cons_zero]; rfl)
             case hw17A => (first | rfl | (simp [Region.wanted, yielded]; done))
             case hy17A => (intro w hSw; (try dsimp only at hSw); go_simp; try with_reducible rfl)
             try simp only [Act.put, List.setIfInBounds_toArray, List.set_cons_zero, List.set_cons_succ])
          | (refine wpAnyH_take (i := 17) (oi := ?oj17A) (v := undef) ?hj17A (by kernel_rfl) (by kernel_rfl) (by kernel_rfl) (fun _ _ _ h => h) (Or.inr ⟨?hx17A, rfl⟩) hHeld ?more17A
             case hj17A => (simp only [List.getElem?_toArray, List.getElem?_cons_succ, List.getElem?_cons_zero]; rfl)
             case hx17A => (first | rfl | (simp [Region.wanted, yielded]; done))
             try simp only [Act.put, List.setIfInBounds_toArray, List.set_cons_zero, List.set_cons_succ])
          | fail
        first
          | (refine wpAnyH_take (i := 18) (oi := ?oi18A) (v := ?v18A) ?hi18A (by kernel_rfl) (by kernel_rfl) (by kernel_rfl) (fun _ _ _ h => h) (Or.inl ⟨?hw18A, ?hy18A⟩) hHeld ?rest18A
             case hi18A => (simp only [List.getElem?_toArray, List.getElem?_cons_succ, List.getElem?_cons_zero]; rfl)
             case hw18A => (first | rfl | (simp [Region.wanted, yielded]; done))
             case hy18A => (intro w hSw; (try dsimp only at hSw); go_simp; try with_reducible rfl)
             try simp only [Act.put, List.setIfInBounds_toArray, List.set_cons_zero, List.set_cons_succ])
          | (refine wpAnyH_take (i := 18) (oi := ?oj18A) (v := undef) ?hj18A (by kernel_rfl) (by kernel_rfl) (by kernel_rfl) (fun _ _ _ h => h) (Or.inr ⟨?hx18A, rfl⟩) hHeld ?more18A
             case hj18A => (simp only [List.getElem?_toArray, List.getElem?_cons_succ, List.getElem?_cons_zero]; rfl)
             case hx18A => (first | rfl | (simp [Region.wanted, yielded]; done))
             try simp only [Act.put, List.setIfInBounds_toArray, List.set_cons_zero, List.set_cons_succ])
          | fail
        refine wpAnyH_done (by kernel_rfl) ?_ _
        first | refine NoPanic.normal ?_ | skip
        go_wp2
        go_ret
        exact ⟨ret_bool (by unfold gramB; rw [rulesB_bad hlt hno.out]; rfl), (K0.trans (hHeld.2.2.mono K0.size))⟩
      · by_cases hk0 : 0 < k
        · have hkd : decide (0 < k) = true := by simp [hk0]
          have k1 : IntKind.i64.wrap ((k : Int) - 1) = (k : Int) - 1 := IntWalk.i64_in _ (by omega)
          have k2 : ((k : Int) - 1).toNat = k - 1 := by omega
          have k3 : (0 : Int) ≤ (k : Int) - 1 := by omega
          have k5 : (1 : Int) ≤ (k : Int) := by omega
          have k4 : (k : Int) - 1 < rs.length := by omega
          obtain ⟨b', o', eA, hb', d0', _⟩ := hA0 (k - 1) rs[k - 1] (by simp <;> omega)
          injection eA with eA
          injection eA with eA1 eA2
          subst eA1; subst eA2
          have hgq := Lib.hid (okAt_at (show k - 1 < rs.length by omega))
          generalize rs[k - 1] = q' at d0' hgq
          obtain ⟨q, q2⟩ := q'
          have q0 := (Ka.cell (p := ⟨b, o + (k - 1) * 2, none⟩) hb).trans d0'
          have zb : b < wa.heap.size := by omega
          clear d0'
          first | refine wp_region_noPanic ?_ | skip
          refine wp_region_held_drew (S := fun w' => w'.cell? ⟨wr.heap.size, 0, none⟩ = some (.string r.1) ∧ w'.cell? ⟨wr.heap.size, 1, none⟩ = some (.string r.2) ∧ w'.cell? ⟨w.heap.size, 1, none⟩ = some (.slice (some ⟨b, o, none⟩) rs.length c) ∧ w'.cell? ⟨b, o + (k - 1) * 2, none⟩ = some (.string q) ∧ Below w0.heap.size w0 w') (by kernel_rfl) (by exact ⟨p0, p1, f1, q0, Ka.drew⟩) (fun hHeld => ?_)
          first
            | (refine wpAnyH_take (i := 0) (oi := ?oi0C) (v := ?v0C) ?hi0C (by kernel_rfl) (by kernel_rfl) (by kernel_rfl) (fun _ _ _ h => h) (Or.inl ⟨?hw0C, ?hy0C⟩) hHeld ?rest0C
               case hi0C => (simp only [List.getElem?_toArray, List.getElem?_cons_zero]; rfl)
               case hw0C => (first | rfl | (simp [Region.wanted, yielded]; done))
               case hy0C => (intro w hSw; (try dsimp only at hSw); go_simp; try with_reducible rfl)
               try simp only [Act.put, List.setIfInBounds_toArray, List.set_cons_zero, List.set_cons_succ])
            | (refine wpAnyH_take (i := 0) (oi := ?oj0C) (v := undef) ?hj0C (by kernel_rfl) (by kernel_rfl) (by kernel_rfl) (fun _ _ _ h => h) (Or.inr ⟨?hx0C, rfl⟩) hHeld ?more0C
               case hj0C => (simp only [List.getElem?_toArray, List.getElem?_cons_zero]; rfl)
               case hx0C => (first | rfl | (simp [Region.wanted, yielded]; done))
               try simp only [Act.put, List.setIfInBounds_toArray, List.set_cons_zero, List.set_cons_succ])
            | fail
          refine wpAnyH_ready (rs := [1]) (by kernel_rfl) (by simp) ?_
          refine AllReadyH.cons rfl (fun K hK => ?_) AllReadyH.nil
          go_simp
          refine (isRule_any r _ y0 y1).mono ?_
          rintro e w2 ⟨rfl, hbl⟩
          rw [hR]
          have hb2 := Below.step Ka.drew hbl
          go_simp
          refine hK.out _ _ (by exact ⟨(hbl.cell (p := ⟨wr.heap.size, 0, none⟩) zp).trans p0, (hbl.cell (p := ⟨wr.heap.size, 1, none⟩) zp).trans p1, (hbl.cell (p := ⟨w.heap.size, 1, none⟩) za).trans f1, (hbl.cell (p := ⟨b, o + (k - 1) * 2, none⟩) zb).trans q0, hb2⟩) (fun hHeld => ?_)
          clear hK K
          try simp only [Act.put, List.setIfInBounds_toArray, List.set_cons_zero, List.set_cons_succ]
          first
            | (refine wpAnyH_take (i := 2) (oi := ?oi2C) (v := ?v2C) ?hi2C (by kernel_rfl) (by kernel_rfl) (by kernel_rfl) (fun _ _ _ h => h) (Or.inl ⟨?hw2C, ?hy2C⟩) hHeld ?rest2C
               case hi2C => (simp only [List.getElem?_toArray, List.getElem?_cons_succ, List.getElem?_cons_zero]; rfl)
               case hw2C => (first | rfl | (simp [Region.wanted, yielded]; done))
               case hy2C => (intro w hSw; (try dsimp only at hSw); go_simp; try with_reducible rfl)
               try simp only [Act.put, List.setIfInBounds_toArray, List.set_cons_zero, List.set_cons_succ])
            | (refine wpAnyH_take (i := 2) (oi := ?oj2C) (v := undef) ?hj2C (by kernel_rfl) (by kernel_rfl) (by kernel_rfl) (fun _ _ _ h => h) (Or.inr ⟨?hx2C, rfl⟩) hHeld ?more2C
               case hj2C => (simp only [List.getElem?_toArray, List.getElem?_cons_succ, List.getElem?_cons_zero]; rfl)
               case hx2C => (first | rfl | (simp [Region.wanted, yielded]; done))
               try simp only [Act.put, List.setIfInBounds_toArray, List.set_cons_zero, List.set_cons_succ])
            | fail
          first
            | (refine wpAnyH_take (i := 3) (oi := ?oi3C) (v := ?v3C) ?hi3C (by kernel_rfl) (by kernel_rfl) (by kernel_rfl) (fun _ _ _ h => h) (Or.inl ⟨?hw3C, ?hy3C⟩) hHeld ?rest3C
               case hi3C => (simp only [List.getElem?_toArray, List.getElem?_cons_succ, List.getElem?_cons_zero]; rfl)
               case hw3C => (first | rfl | (simp [Region.wanted, yielded]; done))
               case hy3C => (intro w hSw; (try dsimp only at hSw); go_simp; try with_reducible rfl)
               try simp only [Act.put, List.setIfInBounds_toArray, List.set_cons_zero, List.set_cons_succ])
            | (refine wpAnyH_take (i := 3) (oi := ?oj3C) (v := undef) ?hj3C (by kernel_rfl) (by kernel_rfl) (by kernel_rfl) (fun _ _ _ h => h) (Or.inr ⟨?hx3C, rfl⟩) hHeld ?more3C
               case hj3C => (simp only [List.getElem?_toArray, List.getElem?_cons_succ, List.getElem?_cons_zero]; rfl)
               case hx3C => (first | rfl | (simp [Region.wanted, yielded]; done))
               try simp only [Act.put, List.setIfInBounds_toArray, List.set_cons_zero, List.set_cons_succ])
            | fail
          first
            | (refine wpAnyH_take (i := 4) (oi := ?oi4C) (v := ?v4C) ?hi4C (by kernel_rfl) (by kernel_rfl) (by kernel_rfl) (fun _ _ _ h => h) (Or.inl ⟨?hw4C, ?hy4C⟩) hHeld ?rest4C
               case hi4C => (simp only [List.getElem?_toArray, List.getElem?_cons_succ, List.getElem?_cons_zero]; rfl)
               case hw4C => (first | rfl | (simp [Region.wanted, yielded]; done))
               case hy4C => (intro w hSw; (try dsimp only at hSw); go_simp; try with_reducible rfl)
               try simp only [Act.put, List.setIfInBounds_toArray, List.set_cons_zero, List.set_cons_succ])
            | (refine wpAnyH_take (i := 4) (oi := ?oj4C) (v := undef) ?hj4C (by kernel_rfl) (by kernel_rfl) (by kernel_rfl) (fun _ _ _ h => h) (Or.inr ⟨?hx4C, rfl⟩) hHeld ?more4C
               case hj4C => (simp only [List.getElem?_toArray, List.getElem?_cons_succ, List.getElem?_cons_zero]; rfl)
               case hx4C => (first | rfl | (simp [Region.wanted, yielded]; done))
               try simp only [Act.put, List.setIfInBounds_toArray, List.set_cons_zero, List.set_cons_succ])
            | fail
          first
            | (refine wpAnyH_take (i := 5) (oi := ?oi5C) (v := ?v5C) ?hi5C (by kernel_rfl) (by kernel_rfl) (by kernel_rfl) (fun _ _ _ h => h) (Or.inl ⟨?hw5C, ?hy5C⟩) hHeld ?rest5C
               case hi5C => (simp only [List.getElem?_toArray, List.getElem?_cons_succ, List.getElem?_cons_zero]; rfl)
               case hw5C => (first | rfl | (simp [Region.wanted, yielded]; done))
               case hy5C => (intro w hSw; (try dsimp only at hSw); go_simp; try with_reducible rfl)
               try simp only [Act.put, List.setIfInBounds_toArray, List.set_cons_zero, List.set_cons_succ])
            | (refine wpAnyH_take (i := 5) (oi := ?oj5C) (v := undef) ?hj5C (by kernel_rfl) (by kernel_rfl) (by kernel_rfl) (fun _ _ _ h => h) (Or.inr ⟨?hx5C, rfl⟩) hHeld ?more5C
               case hj5C => (simp only [List.getElem?_toArray, List.getElem?_cons_succ, List.getElem?_cons_zero]; rfl)
               case hx5C => (first | rfl | (simp [Region.wanted, yielded]; done))
               try simp only [Act.put, List.setIfInBounds_toArray, List.set_cons_zero, List.set_cons_succ])
            | fail
          first
            | (refine wpAnyH_take (i := 6) (oi := ?oi6C) (v := ?v6C) ?hi6C (by kernel_rfl) (by kernel_rfl) (by kernel_rfl) (fun _ _ _ h => h) (Or.inl ⟨?hw6C, ?hy6C⟩) hHeld ?rest6C
               case hi6C => (simp only [List.getElem?_toArray, List.getElem?_cons_succ, List.getElem?_cons_zero]; rfl)
               case hw6C => (first | rfl | (simp [Region.wanted, yielded]; done))
               case hy6C => (intro w hSw; (try dsimp only at hSw); go_simp; try with_reducible rfl)
               try simp only [Act.put, List.setIfInBounds_toArray, List.set_cons_zero, List.set_cons_succ])
            | (refine wpAnyH_take (i := 6) (oi := ?oj6C) (v := undef) ?hj6C (by kernel_rfl) (by kernel_rfl) (by kernel_rfl) (fun _ _ _ h => h) (Or.inr ⟨?hx6C, rfl⟩) hHeld ?more6C
               case hj6C => (simp only [List.getElem?_toArray, List.getElem?_cons_succ, List.getElem?_cons_zero]; rfl)
               case hx6C => (first | rfl | (simp [Region.wanted, yielded]; done))
               try simp only [Act.put, List.setIfInBounds_toArray, List.set_cons_zero, List.set_cons_succ])
            | fail
          first
            | (refine wpAnyH_take (i := 7) (oi := ?oi7C) (v := ?v7C) ?hi7C (by kernel_rfl) (by kernel_rfl) (by kernel_rfl) (fun _ _ _ h => h) (Or.inl ⟨?hw7C, ?hy7C⟩) hHeld ?rest7C
               case hi7C => (simp only [List.getElem?_toArray, List.getElem?_cons_succ, List.getElem?_cons_zero]; rfl)
               case hw7C => (first | rfl | (simp [Region.wanted, yielded]; done))
               case hy7C => (intro w hSw; (try dsimp only at hSw); go_simp; try with_reducible rfl)
               try simp only [Act.put, List.setIfInBounds_toArray, List.set_cons_zero, List.set_cons_succ])
            | (refine wpAnyH_take (i := 7) (oi := ?oj7C) (v := undef) ?hj7C (by kernel_rfl) (by kernel_rfl) (by kernel_rfl) (fun _ _ _ h => h) (Or.inr ⟨?hx7C, rfl⟩) hHeld ?more7C
               case hj7C => (simp only [List.getElem?_toArray, List.getElem?_cons_succ, List.getElem?_cons_zero]; rfl)
               case hx7C => (first | rfl | (simp [Region.wanted, yielded]; done))
               try simp only [Act.put, List.setIfInBounds_toArray, List.set_cons_zero, List.set_cons_succ])
            | fail
          first
            | (refine wpAnyH_take (i := 8) (oi := ?oi8C) (v := ?v8C) ?hi8C (by kernel_rfl) (by kernel_rfl) (by kernel_rfl) (fun _ _ _ h => h) (Or.inl ⟨?hw8C, ?hy8C⟩) hHeld ?rest8C
               case hi8C => (simp only [List.getElem?_toArray, List.getElem?_cons_succ, List.getElem?_cons_zero]; rfl)
               case hw8C => (first | rfl | (simp [Region.wanted, yielded]; done))
               case hy8C => (intro w hSw; (try dsimp only at hSw); go_simp; try with_reducible rfl)
               try simp only [Act.put, List.setIfInBounds_toArray, List.set_cons_zero, List.set_cons_succ])
            | (refine wpAnyH_take (i := 8) (oi := ?oj8C) (v := undef) ?hj8C (by kernel_rfl) (by kernel_rfl) (by kernel_rfl) (fun _ _ _ h => h) (Or.inr ⟨?hx8C, rfl⟩) hHeld ?more8C
               case hj8C => (simp only [List.getElem?_toArray, List.getElem?_cons_succ, List.getElem?_cons_zero]; rfl)
               case hx8C => (first | rfl | (simp [Region.wanted, yielded]; done))
               try simp only [Act.put, List.setIfInBounds_toArray, List.set_cons_zero, List.set_cons_succ])
            | fail
          first
            | (refine wpAnyH_take (i := 9) (oi := ?oi9C) (v := ?v9C) ?hi9C (by kernel_rfl) (by kernel_rfl) (by kernel_rfl) (fun _ _ _ h => h) (Or.inl ⟨?hw9C, ?hy9C⟩) hHeld ?rest9C
               case hi9C => (simp only [List.getElem?_toArray, List.getElem?_cons_succ, List.getElem?_cons_zero]; rfl)
               case hw9C => (first | rfl | (simp [Region.wanted, yielded]; done))
               case hy9C => (intro w hSw; (try dsimp only at hSw); go_simp; try with_reducible rfl)
               try simp only [Act.put, List.setIfInBounds_toArray, List.set_cons_zero, List.set_cons_succ])
            | (refine wpAnyH_take (i := 9) (oi := ?oj9C) (v := undef) ?hj9C (by kernel_rfl) (by kernel_rfl) (by kernel_rfl) (fun _ _ _ h => h) (Or.inr ⟨?hx9C, rfl⟩) hHeld ?more9C
               case hj9C => (simp only [List.getElem?_toArray, List.getElem?_cons_succ, List.getElem?_cons_zero]; rfl)
               case hx9C => (first | rfl | (simp [Region.wanted, yielded]; done))
               try simp only [Act.put, List.setIfInBounds_toArray, List.set_cons_zero, List.set_cons_succ])
            | fail
          first
            | (refine wpAnyH_take (i := 10) (oi := ?oi10C) (v := ?v10C) ?hi10C (by kernel_rfl) (by kernel_rfl) (by kernel_rfl) (fun _ _ _ h => h) (Or.inl ⟨?hw10C, ?hy10C⟩) hHeld ?rest10C
               case hi10C => (simp only [List.getElem?_toArray, List.getElem?_cons_succ, List.getElem?_cons_zero]; rfl)
               case hw10C => (first | rfl | (simp [Region.wanted, yielded]; done))
               case hy10C => (intro w hSw; (try dsimp only at hSw); go_simp; try with_reducible rfl)
               try simp only [Act.put, List.setIfInBounds_toArray, List.set_cons_zero, List.set_cons_succ])
            | (refine wpAnyH_take (i := 10) (oi := ?oj10C) (v := undef) ?hj10C (by kernel_rfl) (by kernel_rfl) (by kernel_rfl) (fun _ _ _ h => h) (Or.inr ⟨?hx10C, rfl⟩) hHeld ?more10C
               case hj10C => (simp only [List.getElem?_toArray, List.getElem?_cons_succ, List.getElem?_cons_zero]; rfl)
               case hx10C => (first | rfl | (simp [Region.wanted, yielded]; done))
               try simp only [Act.put, List.setIfInBounds_toArray, List.set_cons_zero, List.set_cons_succ])
            | fail
          first
            | (refine wpAnyH_take (i := 11) (oi := ?oi11C) (v := ?v11C) ?hi11C (by kernel_rfl) (by kernel_rfl) (by kernel_rfl) (fun _ _ _ h => h) (Or.inl ⟨?hw11C, ?hy11C⟩) hHeld ?rest11C
               case hi11C => (simp only [List.getElem?_toArray, List.getElem?_cons_succ, List.getElem?_cons_zero]; rfl)
               case hw11C => (first | rfl | (simp [Region.wanted, yielded]; done))
               case hy11C => (intro w hSw; (try dsimp only at hSw); go_simp; try with_reducible rfl)
               try simp only [Act.put, List.setIfInBounds_toArray, List.set_cons_zero, List.set_cons_succ])
            | (refine wpAnyH_take (i := 11) (oi := ?oj11C) (v := undef) ?hj11C (by kernel_rfl) (by kernel_rfl) (by kernel_rfl) (fun _ _ _ h => h) (Or.inr ⟨?hx11C, rfl⟩) hHeld ?more11C
               case hj11C => (simp only [List.getElem?_toArray, List.getElem?_cons_succ, List.getElem?_cons_zero]; rfl)
               case hx11C => (first | rfl | (simp [Region.wanted, yielded]; done))
               try simp only [Act.put, List.setIfInBounds_toArray, List.set_cons_zero, List.set_cons_succ])
            | fail
          first
            | (refine wpAnyH_take (i := 12) (oi := ?oi12C) (v := ?v12C) ?hi12C (by kernel_rfl) (by kernel_rfl) (by kernel_rfl) (fun _ _ _ h => h) (Or.inl ⟨?hw12C, ?hy12C⟩) hHeld ?rest12C
               case hi12C => (simp only [List.getElem?_toArray, List.getElem?_cons_succ, List.getElem?_cons_zero]; rfl)
               case hw12C => (first | rfl | (simp [Region.wanted, yielded]; done))
               case hy12C => (intro w hSw; (try dsimp only at hSw); go_simp; try with_reducible rfl)
               try simp only [Act.put, List.setIfInBounds_toArray, List.set_cons_zero, List.set_cons_succ])
            | (refine wpAnyH_take (i := 12) (oi := ?oj12C) (v := undef) ?hj12C (by kernel_rfl) (by kernel_rfl) (by kernel_rfl) (fun _ _ _ h => h) (Or.inr ⟨?hx12C, rfl⟩) hHeld ?more12C
               case hj12C => (simp only [List.getElem?_toArray, List.getElem?_cons_succ, List.getElem?_cons_zero]; rfl)
               case hx12C => (first | rfl | (simp [Region.wanted, yielded]; done))
               try simp only [Act.put, List.setIfInBounds_toArray, List.set_cons_zero, List.set_cons_succ])
            | fail
          first
            | (refine wpAnyH_take (i := 13) (oi := ?oi13C) (v := ?v13C) ?hi13C (by kernel_rfl) (by kernel_rfl) (by kernel_rfl) (fun _ _ _ h => h) (Or.inl ⟨?hw13C, ?hy13C⟩) hHeld ?rest13C
               case hi13C => (simp only [List.getElem?_toArray, List.getElem?_cons_succ, List.getElem?_cons_zero]; rfl)
               case hw13C => (first | rfl | (simp [Region.wanted, yielded]; done))
               case hy13C => (intro w hSw; (try dsimp only at hSw); go_simp; try with_reducible rfl)
               try simp only [Act.put, List.setIfInBounds_toArray, List.set_cons_zero, List.set_cons_succ])
            | (refine wpAnyH_take (i := 13) (oi := ?oj13C) (v := undef) ?hj13C (by kernel_rfl) (by kernel_rfl) (by kernel_rfl) (fun _ _ _ h => h) (Or.inr ⟨?hx13C, rfl⟩) hHeld ?more13C
               case hj13C => (simp only [List.getElem?_toArray, List.getElem?_cons_succ, List.getElem?_cons_zero]; rfl)
               case hx13C => (first | rfl | (simp [Region.wanted, yielded]; done))
               try simp only [Act.put, List.setIfInBounds_toArray, List.set_cons_zero, List.set_cons_succ])
            | fail
          first
            | (refine wpAnyH_take (i := 14) (oi := ?oi14C) (v := ?v14C) ?hi14C (by kernel_rfl) (by kernel_rfl) (by kernel_rfl) (fun _ _ _ h => h) (Or.inl ⟨?hw14C, ?hy14C⟩) hHeld ?rest14C
               case hi14C => (simp only [List.getElem?_toArray, List.getElem?_cons_succ, List.getElem?_cons_zero]; rfl)
               case hw14C => (first | rfl | (simp [Region.wanted, yielded]; done))
               case hy14C => (intro w hSw; (try dsimp only at hSw); go_simp; try with_reducible rfl)
               try simp only [Act.put, List.setIfInBounds_toArray, List.set_cons_zero, List.set_cons_succ])
            | (refine wpAnyH_take (i := 14) (oi := ?oj14C) (v := undef) ?hj14C (by kernel_rfl) (by kernel_rfl) (by kernel_rfl) (fun _ _ _ h => h) (Or.inr ⟨?hx14C, rfl⟩) hHeld ?more14C
               case hj14C => (simp only [List.getElem?_toArray, List.getElem?_cons_succ, List.getElem?_cons_zero]; rfl)
               case hx14C => (first | rfl | (simp [Region.wanted, yielded]; done))
               try simp only [Act.put, List.setIfInBounds_toArray, List.set_cons_zero, List.set_cons_succ])
            | fail
          first
            | (refine wpAnyH_take (i := 15) (oi := ?oi15C) (v := ?v15C) ?hi15C (by kernel_rfl) (by kernel_rfl) (by kernel_rfl) (fun _ _ _ h => h) (Or.inl ⟨?hw15C, ?hy15C⟩) hHeld ?rest15C
               case hi15C => (simp only [List.getElem?_toArray, List.getElem?_cons_succ, List.getElem?_cons_zero]; rfl)
               case hw15C => (first | rfl | (simp [Region.wanted, yielded]; done))
               case hy15C => (intro w hSw; (try dsimp only at hSw); go_simp; try with_reducible rfl)
               try simp only [Act.put, List.setIfInBounds_toArray, List.set_cons_zero, List.set_cons_succ])
            | (refine wpAnyH_take (i := 15) (oi := ?oj15C) (v := undef) ?hj15C (by kernel_rfl) (by kernel_rfl) (by kernel_rfl) (fun _ _ _ h => h) (Or.inr ⟨?hx15C, rfl⟩) hHeld ?more15C
               case hj15C => (simp only [List.getElem?_toArray, List.getElem?_cons_succ, List.getElem?_cons_zero]; rfl)
               case hx15C => (first | rfl | (simp [Region.wanted, yielded]; done))
               try simp only [Act.put, List.setIfInBounds_toArray, List.set_cons_zero, List.set_cons_succ])
            | fail
          first
            | (refine wpAnyH_take (i := 16) (oi := ?oi16C) (v := ?v16C) ?hi16C (by kernel_rfl) (by kernel_rfl) (by kernel_rfl) (fun _ _ _ h => h) (Or.inl ⟨?hw16C, ?hy16C⟩) hHeld ?rest16C
               case hi16C => (simp only [List.getElem?_toArray, List.getElem?_cons_succ, List.getElem?_cons_zero]; rfl)
               case hw16C => (first | rfl | (simp [Region.wanted, yielded]; done))
               case hy16C => (intro w hSw; (try dsimp only at hSw); go_simp; try with_reducible rfl)
               try simp only [Act.put, List.setIfInBounds_toArray, List.set_cons_zero, List.set_cons_succ])
            | (refine wpAnyH_take (i := 16) (oi := ?oj16C) (v := undef) ?hj16C (by kernel_rfl) (by kernel_rfl) (by kernel_rfl) (fun _ _ _ h => h) (Or.inr ⟨?hx16C, rfl⟩) hHeld ?more16C
               case hj16C => (simp only [List.getElem?_toArray, List.getElem?_cons_succ, List.getElem?_cons_zero]; rfl)
               case hx16C => (first | rfl | (simp [Region.wanted, yielded]; done))
               try simp only [Act.put, List.setIfInBounds_toArray, List.set_cons_zero, List.set_cons_succ])
            | fail
          first
            | (refine wpAnyH_take (i := 17) (oi := ?oi17C) (v := ?v17C) ?hi17C (by kernel_rfl) (by kernel_rfl) (by kernel_rfl) (fun _ _ _ h => h) (Or.inl ⟨?hw17C, ?hy17C⟩) hHeld ?rest17C
               case hi17C => (simp only [List.getElem?_toArray, List.getElem?_cons_succ, List.getElem?_cons_zero]; rfl)
               case hw17C => (first | rfl | (simp [Region.wanted, yielded]; done))
               case hy17C => (intro w hSw; (try dsimp only at hSw); go_simp; try with_reducible rfl)
               try simp only [Act.put, List.setIfInBounds_toArray, List.set_cons_zero, List.set_cons_succ])
            | (refine wpAnyH_take (i := 17) (oi := ?oj17C) (v := undef) ?hj17C (by kernel_rfl) (by kernel_rfl) (by kernel_rfl) (fun _ _ _ h => h) (Or.inr ⟨?hx17C, rfl⟩) hHeld ?more17C
               case hj17C => (simp only [List.getElem?_toArray, List.getElem?_cons_succ, List.getElem?_cons_zero]; rfl)
               case hx17C => (first | rfl | (simp [Region.wanted, yielded]; done))
               try simp only [Act.put, List.setIfInBounds_toArray, List.set_cons_zero, List.set_cons_succ])
            | fail
          first
            | (refine wpAnyH_take (i := 18) (oi := ?oi18C) (v := ?v18C) ?hi18C (by kernel_rfl) (by kernel_rfl) (by kernel_rfl) (fun _ _ _ h => h) (Or.inl ⟨?hw18C, ?hy18C⟩) hHeld ?rest18C
               case hi18C => (simp only [List.getElem?_toArray, List.getElem?_cons_succ, List.getElem?_cons_zero]; rfl)
               case hw18C => (first | rfl | (simp [Region.wanted, yielded]; done))
               case hy18C => (intro w hSw; (try dsimp only at hSw); go_simp; try with_reducible rfl)
               try simp only [Act.put, List.setIfInBounds_toArray, List.set_cons_zero, List.set_cons_succ])
            | (refine wpAnyH_take (i := 18) (oi := ?oj18C) (v := undef) ?hj18C (by kernel_rfl) (by kernel_rfl) (by kernel_rfl) (fun _ _ _ h => h) (Or.inr ⟨?hx18C, rfl⟩) hHeld ?more18C
               case hj18C => (simp only [List.getElem?_toArray, List.getElem?_cons_succ, List.getElem?_cons_zero]; rfl)
               case hx18C => (first | rfl | (simp [Region.wanted, yielded]; done))
               try simp only [Act.put, List.setIfInBounds_toArray, List.set_cons_zero, List.set_cons_succ])
            | fail
          refine wpAnyH_done (by kernel_rfl) ?_ _
          first | refine NoPanic.normal ?_ | skip
          cases hle : (Op.bytesLess r.1.toList q.toList || r.1.toList == q.toList)
          · have hyes : Hid (okAt rs k = true) := Lib.hid (by unfold okAt leB; rw [hg.out, hgq.out, hR]; show _ = _; rw [show (Op.bytesLess r.1.toList q.toList || r.1.toList == q.toList) = false from hle]; simp)
            go_wp2
            go_roundw
            case rel => exact ⟨k + 1, by omega, by go_num, Lib.hid (by rw [List.range_succ, List.all_append, HO.out]; simp [hyes.out]), hHeld.2.2.2.2⟩
            case measure => simp [intOf]; omega
          · have hno : Hid (okAt rs k = false) := Lib.hid (by unfold okAt leB; rw [hg.out, hgq.out, hR]; show _ = _; rw [show (Op.bytesLess r.1.toList q.toList || r.1.toList == q.toList) = true from hle]; simp; omega)
            go_wp2
            go_ret
            exact ⟨ret_bool (by unfold gramB; rw [rulesB_bad hlt hno.out]; rfl), (K0.trans (hHeld.2.2.2.2.mono K0.size))⟩
        · have hkd : decide (0 < k) = false := by simp; omega
          have hyes : Hid (okAt rs k = true) := Lib.hid (by unfold okAt; rw [hg.out, hR, decide_eq_true (by omega : k = 0)]; rfl)
          first | refine wp_region_noPanic ?_ | skip
          refine wp_region_held_drew (S := fun w' => w'.cell? ⟨wr.heap.size, 0, none⟩ = some (.string r.1) ∧ w'.cell? ⟨wr.heap.size, 1, none⟩ = some (.string r.2) ∧ Below w0.heap.size w0 w') (by kernel_rfl) (by exact ⟨p0, p1, Ka.drew⟩) (fun hHeld => ?_)
          first
            | (refine wpAnyH_take (i := 0) (oi := ?oi0B) (v := ?v0B) ?hi0B (by kernel_rfl) (by kernel_rfl) (by kernel_rfl) (fun _ _ _ h => h) (Or.inl ⟨?hw0B, ?hy0B⟩) hHeld ?rest0B
               case hi0B => (simp only [List.getElem?_toArray, List.getElem?_cons_zero]; rfl)
               case hw0B => (first | rfl | (simp [Region.wanted, yielded]; done))
               case hy0B => (intro w hSw; (try dsimp only at hSw); go_simp; try with_reducible rfl)
               try simp only [Act.put, List.setIfInBounds_toArray, List.set_cons_zero, List.set_cons_succ])
            | (refine wpAnyH_take (i := 0) (oi := ?oj0B) (v := undef) ?hj0B (by kernel_rfl) (by kernel_rfl) (by kernel_rfl) (fun _ _ _ h => h) (Or.inr ⟨?hx0B, rfl⟩) hHeld ?more0B
               case hj0B => (simp only [List.getElem?_toArray, List.getElem?_cons_zero]; rfl)
               case hx0B => (first | rfl | (simp [Region.wanted, yielded]; done))
               try simp only [Act.put, List.setIfInBounds_toArray, List.set_cons_zero, List.set_cons_succ])
            | fail
          refine wpAnyH_ready (rs := [1]) (by kernel_rfl) (by simp) ?_
          refine AllReadyH.cons rfl (fun K hK => ?_) AllReadyH.nil
          go_simp
          refine (isRule_any r _ y0 y1).mono ?_
          rintro e w2 ⟨rfl, hbl⟩
          rw [hR]
          have hb2 := Below.step Ka.drew hbl
          go_simp
          refine hK.out _ _ (by exact ⟨(hbl.cell (p := ⟨wr.heap.size, 0, none⟩) zp).trans p0, (hbl.cell (p := ⟨wr.heap.size, 1, none⟩) zp).trans p1, hb2⟩) (fun hHeld => ?_)
          clear hK K
          try simp only [Act.put, List.setIfInBounds_toArray, List.set_cons_zero, List.set_cons_succ]
          first
            | (refine wpAnyH_take (i := 2) (oi := ?oi2B) (v := ?v2B) ?hi2B (by kernel_rfl) (by kernel_rfl) (by kernel_rfl) (fun _ _ _ h => h) (Or.inl ⟨?hw2B, ?hy2B⟩) hHeld ?rest2B
               case hi2B => (simp only [List.getElem?_toArray, List.getElem?_cons_succ, List.getElem?_cons_zero]; rfl)
               case hw2B => (first | rfl | (simp [Region.wanted, yielded]; done))
               case hy2B => (intro w hSw; (try dsimp only at hSw); go_simp; try with_reducible rfl)
               try simp only [Act.put, List.setIfInBounds_toArray, List.set_cons_zero, List.set_cons_succ])
            | (refine wpAnyH_take (i := 2) (oi := ?oj2B) (v := undef) ?hj2B (by kernel_rfl) (by kernel_rfl) (by kernel_rfl) (fun _ _ _ h => h) (Or.inr ⟨?hx2B, rfl⟩) hHeld ?more2B
               case hj2B => (simp only [List.getElem?_toArray, List.getElem?_cons_succ, List.getElem?_cons_zero]; rfl)
               case hx2B => (first | rfl | (simp [Region.wanted, yielded]; done))
               try simp only [Act.put, List.setIfInBounds_toArray, List.set_cons_zero, List.set_cons_succ])
            | fail
          first
            | (refine wpAnyH_take (i := 3) (oi := ?oi3B) (v := ?v3B) ?hi3B (by kernel_rfl) (by kernel_rfl) (by kernel_rfl) (fun _ _ _ h => h) (Or.inl ⟨?hw3B, ?hy3B⟩) hHeld ?rest3B
               case hi3B => (simp only [List.getElem?_toArray, List.getElem?_cons_succ, List.getElem?_cons_zero]; rfl)
               case hw3B => (first | rfl | (simp [Region.wanted, yielded]; done))
               case hy3B => (intro w hSw; (try dsimp only at hSw); go_simp; try with_reducible rfl)
               try simp only [Act.put, List.setIfInBounds_toArray, List.set_cons_zero, List.set_cons_succ])
            | (refine wpAnyH_take (i := 3) (oi := ?oj3B) (v := undef) ?hj3B (by kernel_rfl) (by kernel_rfl) (by kernel_rfl) (fun _ _ _ h => h) (Or.inr ⟨?hx3B, rfl⟩) hHeld ?more3B
               case hj3B => (simp only [List.getElem?_toArray, List.getElem?_cons_succ, List.getElem?_cons_zero]; rfl)
               case hx3B => (first | rfl | (simp [Region.wanted, yielded]; done))
               try simp only [Act.put, List.setIfInBounds_toArray, List.set_cons_zero, List.set_cons_succ])
            | fail
          first
            | (refine wpAnyH_take (i := 4) (oi := ?oi4B) (v := ?v4B) ?hi4B (by kernel_rfl) (by kernel_rfl) (by kernel_rfl) (fun _ _ _ h => h) (Or.inl ⟨?hw4B, ?hy4B⟩) hHeld ?rest4B
               case hi4B => (simp only [List.getElem?_toArray, List.getElem?_cons_succ, List.getElem?_cons_zero]; rfl)
               case hw4B => (first | rfl | (simp [Region.wanted, yielded]; done))
               case hy4B => (intro w hSw; (try dsimp only at hSw); go_simp; try with_reducible rfl)
               try simp only [Act.put, List.setIfInBounds_toArray, List.set_cons_zero, List.set_cons_succ])
            | (refine wpAnyH_take (i := 4) (oi := ?oj4B) (v := undef) ?hj4B (by kernel_rfl) (by kernel_rfl) (by kernel_rfl) (fun _ _ _ h => h) (Or.inr ⟨?hx4B, rfl⟩) hHeld ?more4B
               case hj4B => (simp only [List.getElem?_toArray, List.getElem?_cons_succ, List.getElem?_cons_zero]; rfl)
               case hx4B => (first | rfl | (simp [Region.wanted, yielded]; done))
               try simp only [Act.put, List.setIfInBounds_toArray, List.set_cons_zero, List.set_cons_succ])
            | fail
          first
            | (refine wpAnyH_take (i := 5) (oi := ?oi5B) (v := ?v5B) ?hi5B (by kernel_rfl) (by kernel_rfl) (by kernel_rfl) (fun _ _ _ h => h) (Or.inl ⟨?hw5B, ?hy5B⟩) hHeld ?rest5B
               case hi5B => (simp only [List.getElem?_toArray, List.getElem?_cons_succ, List.getElem?_cons_zero]; rfl)
               case hw5B => (first | rfl | (simp [Region.wanted, yielded]; done))
               case hy5B => (intro w hSw; (try dsimp only at hSw); go_simp; try with_reducible rfl)
               try simp only [Act.put, List.setIfInBounds_toArray, List.set_cons_zero, List.set_cons_succ])
            | (refine wpAnyH_take (i := 5) (oi := ?oj5B) (v := undef) ?hj5B (by kernel_rfl) (by kernel_rfl) (by kernel_rfl) (fun _ _ _ h => h) (Or.inr ⟨?hx5B, rfl⟩) hHeld ?more5B
               case hj5B => (simp only [List.getElem?_toArray, List.getElem?_cons_succ, List.getElem?_cons_zero]; rfl)
               case hx5B => (first | rfl | (simp [Region.wanted, yielded]; done))
               try simp only [Act.put, List.setIfInBounds_toArray, List.set_cons_zero, List.set_cons_succ])
            | fail
          first
            | (refine wpAnyH_take (i := 6) (oi := ?oi6B) (v := ?v6B) ?hi6B (by kernel_rfl) (by kernel_rfl) (by kernel_rfl) (fun _ _ _ h => h) (Or.inl ⟨?hw6B, ?hy6B⟩) hHeld ?rest6B
               case hi6B => (simp only [List.getElem?_toArray, List.getElem?_cons_succ, List.getElem?_cons_zero]; rfl)
               case hw6B => (first | rfl | (simp [Region.wanted, yielded]; done))
               case hy6B => (intro w hSw; (try dsimp only at hSw); go_simp; try with_reducible rfl)
               try simp only [Act.put, List.setIfInBounds_toArray, List.set_cons_zero, List.set_cons_succ])
            | (refine wpAnyH_take (i := 6) (oi := ?oj6B) (v := undef) ?hj6B (by kernel_rfl) (by kernel_rfl) (by kernel_rfl) (fun _ _ _ h => h) (Or.inr ⟨?hx6B, rfl⟩) hHeld ?more6B
               case hj6B => (simp only [List.getElem?_toArray, List.getElem?_cons_succ, List.getElem?_cons_zero]; rfl)
               case hx6B => (first | rfl | (simp [Region.wanted, yielded]; done))
               try simp only [Act.put, List.setIfInBounds_toArray, List.set_cons_zero, List.set_cons_succ])
            | fail
          first
            | (refine wpAnyH_take (i := 7) (oi := ?oi7B) (v := ?v7B) ?hi7B (by kernel_rfl) (by kernel_rfl) (by kernel_rfl) (fun _ _ _ h => h) (Or.inl ⟨?hw7B, ?hy7B⟩) hHeld ?rest7B
               case hi7B => (simp only [List.getElem?_toArray, List.getElem?_cons_succ, List.getElem?_cons_zero]; rfl)
               case hw7B => (first | rfl | (simp [Region.wanted, yielded]; done))
               case hy7B => (intro w hSw; (try dsimp only at hSw); go_simp; try with_reducible rfl)
               try simp only [Act.put, List.setIfInBounds_toArray, List.set_cons_zero, List.set_cons_succ])
            | (refine wpAnyH_take (i := 7) (oi := ?oj7B) (v := undef) ?hj7B (by kernel_rfl) (by kernel_rfl) (by kernel_rfl) (fun _ _ _ h => h) (Or.inr ⟨?hx7B, rfl⟩) hHeld ?more7B
               case hj7B => (simp only [List.getElem?_toArray, List.getElem?_cons_succ, List.getElem?_cons_zero]; rfl)
               case hx7B => (first | rfl | (simp [Region.wanted, yielded]; done))
               try simp only [Act.put, List.setIfInBounds_toArray, List.set_cons_zero, List.set_cons_succ])
            | fail
          first
            | (refine wpAnyH_take (i := 8) (oi := ?oi8B) (v := ?v8B) ?hi8B (by kernel_rfl) (by kernel_rfl) (by kernel_rfl) (fun _ _ _ h => h) (Or.inl ⟨?hw8B, ?hy8B⟩) hHeld ?rest8B
               case hi8B => (simp only [List.getElem?_toArray, List.getElem?_cons_succ, List.getElem?_cons_zero]; rfl)
               case hw8B => (first | rfl | (simp [Region.wanted, yielded]; done))
               case hy8B => (intro w hSw; (try dsimp only at hSw); go_simp; try with_reducible rfl)
               try simp only [Act.put, List.setIfInBounds_toArray, List.set_cons_zero, List.set_cons_succ])
            | (refine wpAnyH_take (i := 8) (oi := ?oj8B) (v := undef) ?hj8B (by kernel_rfl) (by kernel_rfl) (by kernel_rfl) (fun _ _ _ h => h) (Or.inr ⟨?hx8B, rfl⟩) hHeld ?more8B
               case hj8B => (simp only [List.getElem?_toArray, List.getElem?_cons_succ, List.getElem?_cons_zero]; rfl)
               case hx8B => (first | rfl | (simp [Region.wanted, yielded]; done))
               try simp only [Act.put, List.setIfInBounds_toArray, List.set_cons_zero, List.set_cons_succ])
            | fail
          first
            | (refine wpAnyH_take (i := 9) (oi := ?oi9B) (v := ?v9B) ?hi9B (by kernel_rfl) (by kernel_rfl) (by kernel_rfl) (fun _ _ _ h => h) (Or.inl ⟨?hw9B, ?hy9B⟩) hHeld ?rest9B
               case hi9B => (simp only [List.getElem?_toArray, List.getElem?_cons_succ, List.getElem?_cons_zero]; rfl)
               case hw9B => (first | rfl | (simp [Region.wanted, yielded]; done))
               case hy9B => (intro w hSw; (try dsimp only at hSw); go_simp; try with_reducible rfl)
               try simp only [Act.put, List.setIfInBounds_toArray, List.set_cons_zero, List.set_cons_succ])
            | (refine wpAnyH_take (i := 9) (oi := ?oj9B) (v := undef) ?hj9B (by kernel_rfl) (by kernel_rfl) (by kernel_rfl) (fun _ _ _ h => h) (Or.inr ⟨?hx9B, rfl⟩) hHeld ?more9B
               case hj9B => (simp only [List.getElem?_toArray, List.getElem?_cons_succ, List.getElem?_cons_zero]; rfl)
               case hx9B => (first | rfl | (simp [Region.wanted, yielded]; done))
               try simp only [Act.put, List.setIfInBounds_toArray, List.set_cons_zero, List.set_cons_succ])
            | fail
          first
            | (refine wpAnyH_take (i := 10) (oi := ?oi10B) (v := ?v10B) ?hi10B (by kernel_rfl) (by kernel_rfl) (by kernel_rfl) (fun _ _ _ h => h) (Or.inl ⟨?hw10B, ?hy10B⟩) hHeld ?rest10B
               case hi10B => (simp only [List.getElem?_toArray, List.getElem?_cons_succ, List.getElem?_cons_zero]; rfl)
               case hw10B => (first | rfl | (simp [Region.wanted, yielded]; done))
               case hy10B => (intro w hSw; (try dsimp only at hSw); go_simp; try with_reducible rfl)
               try simp only [Act.put, List.setIfInBounds_toArray, List.set_cons_zero, List.set_cons_succ])
            | (refine wpAnyH_take (i := 10) (oi := ?oj10B) (v := undef) ?hj10B (by kernel_rfl) (by kernel_rfl) (by kernel_rfl) (fun _ _ _ h => h) (Or.inr ⟨?hx10B, rfl⟩) hHeld ?more10B
               case hj10B => (simp only [List.getElem?_toArray, List.getElem?_cons_succ, List.getElem?_cons_zero]; rfl)
               case hx10B => (first | rfl | (simp [Region.wanted, yielded]; done))
               try simp only [Act.put, List.setIfInBounds_toArray, List.set_cons_zero, List.set_cons_succ])
            | fail
          first
            | (refine wpAnyH_take (i := 11) (oi := ?oi11B) (v := ?v11B) ?hi11B (by kernel_rfl) (by kernel_rfl) (by kernel_rfl) (fun _ _ _ h => h) (Or.inl ⟨?hw11B, ?hy11B⟩) hHeld ?rest11B
               case hi11B => (simp only [List.getElem?_toArray, List.getElem?_cons_succ, List.getElem?_cons_zero]; rfl)
               case hw11B => (first | rfl | (simp [Region.wanted, yielded]; done))
               case hy11B => (intro w hSw; (try dsimp only at hSw); go_simp; try with_reducible rfl)
               try simp only [Act.put, List.setIfInBounds_toArray, List.set_cons_zero, List.set_cons_succ])
            | (refine wpAnyH_take (i := 11) (oi := ?oj11B) (v := undef) ?hj11B (by kernel_rfl) (by kernel_rfl) (by kernel_rfl) (fun _ _ _ h => h) (Or.inr ⟨?hx11B, rfl⟩) hHeld ?more11B
               case hj11B => (simp only [List.getElem?_toArray, List.getElem?_cons_succ, List.getElem?_cons_zero]; rfl)
               case hx11B => (first | rfl | (simp [Region.wanted, yielded]; done))
               try simp only [Act.put, List.setIfInBounds_toArray, List.set_cons_zero, List.set_cons_succ])
            | fail
          first
            | (refine wpAnyH_take (i := 12) (oi := ?oi12B) (v := ?v12B) ?hi12B (by kernel_rfl) (by kernel_rfl) (by kernel_rfl) (fun _ _ _ h => h) (Or.inl ⟨?hw12B, ?hy12B⟩) hHeld ?rest12B
               case hi12B => (simp only [List.getElem?_toArray, List.getElem?_cons_succ, List.getElem?_cons_zero]; rfl)
               case hw12B => (first | rfl | (simp [Region.wanted, yielded]; done))
               case hy12B => (intro w hSw; (try dsimp only at hSw); go_simp; try with_reducible rfl)
               try simp only [Act.put, List.setIfInBounds_toArray, List.set_cons_zero, List.set_cons_succ])
            | (refine wpAnyH_take (i := 12) (oi := ?oj12B) (v := undef) ?hj12B (by kernel_rfl) (by kernel_rfl) (by kernel_rfl) (fun _ _ _ h => h) (Or.inr ⟨?hx12B, rfl⟩) hHeld ?more12B
               case hj12B => (simp only [List.getElem?_toArray, List.getElem?_cons_succ, List.getElem?_cons_zero]; rfl)
               case hx12B => (first | rfl | (simp [Region.wanted, yielded]; done))
               try simp only [Act.put, List.setIfInBounds_toArray, List.set_cons_zero, List.set_cons_succ])
            | fail
          first
            | (refine wpAnyH_take (i := 13) (oi := ?oi13B) (v := ?v13B) ?hi13B (by kernel_rfl) (by kernel_rfl) (by kernel_rfl) (fun _ _ _ h => h) (Or.inl ⟨?hw13B, ?hy13B⟩) hHeld ?rest13B
               case hi13B => (simp only [List.getElem?_toArray, List.getElem?_cons_succ, List.getElem?_cons_zero]; rfl)
               case hw13B => (first | rfl | (simp [Region.wanted, yielded]; done))
               case hy13B => (intro w hSw; (try dsimp only at hSw); go_simp; try with_reducible rfl)
               try simp only [Act.put, List.setIfInBounds_toArray, List.set_cons_zero, List.set_cons_succ])
            | (refine wpAnyH_take (i := 13) (oi := ?oj13B) (v := undef) ?hj13B (by kernel_rfl) (by kernel_rfl) (by kernel_rfl) (fun _ _ _ h => h) (Or.inr ⟨?hx13B, rfl⟩) hHeld ?more13B
               case hj13B => (simp only [List.getElem?_toArray, List.getElem?_cons_succ, List.getElem?_cons_zero]; rfl)
               case hx13B => (first | rfl | (simp [Region.wanted, yielded]; done))
               try simp only [Act.put, List.setIfInBounds_toArray, List.set_cons_zero, List.set_cons_succ])
            | fail
          first
            | (refine wpAnyH_take (i := 14) (oi := ?oi14B) (v := ?v14B) ?hi14B (by kernel_rfl) (by kernel_rfl) (by kernel_rfl) (fun _ _ _ h => h) (Or.inl ⟨?hw14B, ?hy14B⟩) hHeld ?rest14B
               case hi14B => (simp only [List.getElem?_toArray, List.getElem?_cons_succ, List.getElem?_cons_zero]; rfl)
               case hw14B => (first | rfl | (simp [Region.wanted, yielded]; done))
               case hy14B => (intro w hSw; (try dsimp only at hSw); go_simp; try with_reducible rfl)
               try simp only [Act.put, List.setIfInBounds_toArray, List.set_cons_zero, List.set_cons_succ])
            | (refine wpAnyH_take (i := 14) (oi := ?oj14B) (v := undef) ?hj14B (by kernel_rfl) (by kernel_rfl) (by kernel_rfl) (fun _ _ _ h => h) (Or.inr ⟨?hx14B, rfl⟩) hHeld ?more14B
               case hj14B => (simp only [List.getElem?_toArray, List.getElem?_cons_succ, List.getElem?_cons_zero]; rfl)
               case hx14B => (first | rfl | (simp [Region.wanted, yielded]; done))
               try simp only [Act.put, List.setIfInBounds_toArray, List.set_cons_zero, List.set_cons_succ])
            | fail
          first
            | (refine wpAnyH_take (i := 15) (oi := ?oi15B) (v := ?v15B) ?hi15B (by kernel_rfl) (by kernel_rfl) (by kernel_rfl) (fun _ _ _ h => h) (Or.inl ⟨?hw15B, ?hy15B⟩) hHeld ?rest15B
               case hi15B => (simp only [List.getElem?_toArray, List.getElem?_cons_succ, List.getElem?_cons_zero]; rfl)
               case hw15B => (first | rfl | (simp [Region.wanted, yielded]; done))
               case hy15B => (intro w hSw; (try dsimp only at hSw); go_simp; try with_reducible rfl)
               try simp only [Act.put, List.setIfInBounds_toArray, List.set_cons_zero, List.set_cons_succ])
            | (refine wpAnyH_take (i := 15) (oi := ?oj15B) (v := undef) ?hj15B (by kernel_rfl) (by kernel_rfl) (by kernel_rfl) (fun _ _ _ h => h) (Or.inr ⟨?hx15B, rfl⟩) hHeld ?more15B
               case hj15B => (simp only [List.getElem?_toArray, List.getElem?_cons_succ, List.getElem?_cons_zero]; rfl)
               case hx15B => (first | rfl | (simp [Region.wanted, yielded]; done))
               try simp only [Act.put, List.setIfInBounds_toArray, List.set_cons_zero, List.set_cons_succ])
            | fail
          first
            | (refine wpAnyH_take (i := 16) (oi := ?oi16B) (v := ?v16B) ?hi16B (by kernel_rfl) (by kernel_rfl) (by kernel_rfl) (fun _ _ _ h => h) (Or.inl ⟨?hw16B, ?hy16B⟩) hHeld ?rest16B
               case hi16B => (simp only [List.getElem?_toArray, List.getElem?_cons_succ, List.getElem?_cons_zero]; rfl)
               case hw16B => (first | rfl | (simp [Region.wanted, yielded]; done))
               case hy16B => (intro w hSw; (try dsimp only at hSw); go_simp; try with_reducible rfl)
               try simp only [Act.put, List.setIfInBounds_toArray, List.set_cons_zero, List.set_cons_succ])
            | (refine wpAnyH_take (i := 16) (oi := ?oj16B) (v := undef) ?hj16B (by kernel_rfl) (by kernel_rfl) (by kernel_rfl) (fun _ _ _ h => h) (Or.inr ⟨?hx16B, rfl⟩) hHeld ?more16B
               case hj16B => (simp only [List.getElem?_toArray, List.getElem?_cons_succ, List.getElem?_cons_zero]; rfl)
               case hx16B => (first | rfl | (simp [Region.wanted, yielded]; done))
               try simp only [Act.put, List.setIfInBounds_toArray, List.set_cons_zero, List.set_cons_succ])
            | fail
          first
            | (refine wpAnyH_take (i := 17) (oi := ?oi17B) (v := ?v17B) ?hi17B (by kernel_rfl) (by kernel_rfl) (by kernel_rfl) (fun _ _ _ h => h) (Or.inl ⟨?hw17B, ?hy17B⟩) hHeld ?rest17B
               case hi17B => (simp only [List.getElem?_toArray, List.getElem?_cons_succ, List.getElem?_cons_zero]; rfl)
               case hw17B => (first | rfl | (simp [Region.wanted, yielded]; done))
               case hy17B => (intro w hSw; (try dsimp only at hSw); go_simp; try with_reducible rfl)
               try simp only [Act.put, List.setIfInBounds_toArray, List.set_cons_zero, List.set_cons_succ])
            | (refine wpAnyH_take (i := 17) (oi := ?oj17B) (v := undef) ?hj17B (by kernel_rfl) (by kernel_rfl) (by kernel_rfl) (fun _ _ _ h => h) (Or.inr ⟨?hx17B, rfl⟩) hHeld ?more17B
               case hj17B => (simp only [List.getElem?_toArray, List.getElem?_cons_succ, List.getElem?_cons_zero]; rfl)
               case hx17B => (first | rfl | (simp [Region.wanted, yielded]; done))
               try simp only [Act.put, List.setIfInBounds_toArray, List.set_cons_zero, List.set_cons_succ])
            | fail
          first
            | (refine wpAnyH_take (i := 18) (oi := ?oi18B) (v := ?v18B) ?hi18B (by kernel_rfl) (by kernel_rfl) (by kernel_rfl) (fun _ _ _ h => h) (Or.inl ⟨?hw18B, ?hy18B⟩) hHeld ?rest18B
               case hi18B => (simp only [List.getElem?_toArray, List.getElem?_cons_succ, List.getElem?_cons_zero]; rfl)
               case hw18B => (first | rfl | (simp [Region.wanted, yielded]; done))
               case hy18B => (intro w hSw; (try dsimp only at hSw); go_simp; try with_reducible rfl)
               try simp only [Act.put, List.setIfInBounds_toArray, List.set_cons_zero, List.set_cons_succ])
            | (refine wpAnyH_take (i := 18) (oi := ?oj18B) (v := undef) ?hj18B (by kernel_rfl) (by kernel_rfl) (by kernel_rfl) (fun _ _ _ h => h) (Or.inr ⟨?hx18B, rfl⟩) hHeld ?more18B
               case hj18B => (simp only [List.getElem?_toArray, List.getElem?_cons_succ, List.getElem?_cons_zero]; rfl)
               case hx18B => (first | rfl | (simp [Region.wanted, yielded]; done))
               try simp only [Act.put, List.setIfInBounds_toArray, List.set_cons_zero, List.set_cons_succ])
            | fail
          refine wpAnyH_done (by kernel_rfl) ?_ _
          first | refine NoPanic.normal ?_ | skip
          go_wp2
          go_roundw
          case rel => exact ⟨k + 1, by omega, by go_num, Lib.hid (by rw [List.range_succ, List.all_append, HO.out]; simp [hyes.out]), hHeld.2.2⟩
          case measure => simp [intOf]; omega
    · obtain rfl : k = rs.length := by omega
      have hall : Hid (gramB s rs = (wordB 32 s.data.toList && decide (rs.length ≤ 8))) := Lib.hid (by unfold gramB rulesB; rw [HO.out]; rfl)
      have f0 := (hbel.cell (p := ⟨w.heap.size, 0, none⟩) z0).trans b0
      have f1 := (hbel.cell (p := ⟨w.heap.size, 1, none⟩) z0).trans b1
      have KF := K0.trans (hbel.mono K0.size)
      cases hW : wordB 32 s.data.toList
      · go_wp2_with (go_at_call 63; refine (isShort_any s _ hs).mono ?_; rintro e w' ⟨rfl, rfl⟩; rw [hW])
        go_ret
        exact ⟨ret_bool (by rw [hall.out, hW]; rfl), KF⟩
      · go_wp2_with (go_at_call 63; refine (isShort_any s _ hs).mono ?_; rintro e w' ⟨rfl, rfl⟩; rw [hW])
        go_ret
        exact ⟨ret_bool (by rw [hall.out, hW, Bool.true_and, dec8]), KF⟩
end Go.Proofs.Ytfblpibioegmkaa
