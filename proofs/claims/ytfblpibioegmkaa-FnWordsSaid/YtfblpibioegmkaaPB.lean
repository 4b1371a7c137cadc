/- PutRule: the search among the rules. -/
import Derived.Test.YtfblpibioegmkaaPA
namespace Go.Proofs.Ytfblpibioegmkaa
open Go.RowKit

/-- The search's answer. -/
def SrchR (w : World) (rs : List RuleV) (r : RuleV) (e : Ending) (w' : World) : Prop := ∃ (i : Nat) (b : Bool), e = .returned (.tuple #[.int .i64 i, .bool b]) ∧ i ≤ rs.length ∧ (∀ t (ht : t < rs.length), t < i → hdI rs[t].1 < hdI r.1) ∧
  (b = true → ∃ h : i < rs.length, hdI rs[i].1 = hdI r.1) ∧ (b = false → ∀ t (ht : t < rs.length), i ≤ t → hdI r.1 < hdI rs[t].1) ∧ Below w.heap.size w w'
set_option maxRecDepth 100000 in
set_option maxHeartbeats 2000000 in
theorem search_any (A : Option Addr) (c : Nat) (rs : List RuleV) (r : RuleV) (w : World) (hA : RRd w A rs) (hn : rs.length ≤ 8) (h1 : ∀ x ∈ rs, x.1.size = 1) (hr : r.1.size = 1) (hs : Srt (fun x : RuleV => hdI x.1) rs) :
    Calls Try.prog 73 #[.slice A rs.length c, .agg #[.string r.1, .string r.2], .func (.func 74) #[] #[]] w (SrchR w rs r) := by
  go_enter Try.func73, Try.ntmps73
  go_wp2_with fail
  obtain ⟨w1, hw1⟩ : ∃ w1, w1 = w.alloc (.cells #[.string r.1, .string r.2] 55) := ⟨_, rfl⟩
  have k1 : Below w.heap.size w w1 := by rw [hw1]; exact below_alloc _ _
  have c0 : w1.cell? ⟨w.heap.size, 0, none⟩ = some (.string r.1) := by rw [hw1]; unfold World.cell?; rw [heap_alloc_new]; rfl
  have c1 : w1.cell? ⟨w.heap.size, 1, none⟩ = some (.string r.2) := by rw [hw1]; unfold World.cell?; rw [heap_alloc_new]; rfl
  rw [← hw1]
  have z1 : w.heap.size < w1.heap.size := by rw [hw1]; simp
  clear hw1
  go_loopw [9, 10] (fun iv jv wr => ∃ i j : Nat, iv = .int .i64 i ∧ jv = .int .i64 j ∧ i ≤ j ∧ j ≤ rs.length ∧ Hid ((∀ t (ht : t < rs.length), t < i → hdI rs[t].1 < hdI r.1) ∧ (∀ t (ht : t < rs.length), j ≤ t → hdI r.1 ≤ hdI rs[t].1)) ∧ Below w1.heap.size w1 wr) (fun iv jv _ => (intOf jv - intOf iv).toNat)
  case atStart => exact ⟨0, rs.length, rfl, rfl, Nat.zero_le _, Nat.le_refl _, Lib.hid ⟨fun t _ h => absurd h (by omega), fun t h h' => absurd h (by omega)⟩, Below.refl _ _⟩
  case round =>
    obtain ⟨i, j, rfl, rfl, hij, hjn, HB, k2⟩ := hrel
    have a0 := (k2.cell z1).trans c0
    have a1 := (k2.cell z1).trans c1
    have hA2 := (hA.below k1).below k2
    by_cases hlt : i < j
    · obtain ⟨m, hm⟩ : ∃ m : Nat, m = (i + j) / 2 := ⟨_, rfl⟩
      have hmn : m < rs.length := by omega
      obtain ⟨b, o, rfl, hb, e0, e1⟩ := hA2 m rs[m] (List.getElem?_eq_getElem hmn)
      have hmI : ((i : Int) + (j : Int)) / 2 = (m : Int) := by omega
      have hx1 : rs[m].1.size = 1 := h1 _ (List.getElem_mem hmn)
      obtain ⟨q1, q2⟩ := cmp_one hx1 hr
      have HM : Hid (∀ t (ht : t < rs.length), (t < m → hdI rs[t].1 < hdI rs[m].1) ∧ (m < t → hdI rs[m].1 < hdI rs[t].1)) := Lib.hid (fun t ht => ⟨fun h => srt_at hs hmn h, fun h => srt_at hs ht h⟩)
      have HQ : Hid ((cmpS rs[m].1 r.1 < 0 → hdI rs[m].1 < hdI r.1) ∧ (hdI rs[m].1 < hdI r.1 → cmpS rs[m].1 r.1 < 0)) := Lib.hid ⟨q1.1, q1.2⟩
      clear q1 q2 hx1
      have hm2 : i ≤ m ∧ m < j := by omega
      clear hm
      go_wp2_with fail
      generalize hx : rs[m] = x at *
      go_region_with (go_at_call 74; refine (putCmp_any x r _).mono ?_; rintro e w5 ⟨rfl, k5⟩)
      all_goals
        have k5' : Below w1.heap.size w1 w5 := Below.step k2 ((Below.refl _ _).drew.trans k5)
        by_cases hc : cmpS x.1 r.1 < 0
        · have HN : Hid ((∀ t (ht : t < rs.length), t < m + 1 → hdI rs[t].1 < hdI r.1) ∧ (∀ t (ht : t < rs.length), j ≤ t → hdI r.1 ≤ hdI rs[t].1)) := Lib.hid ⟨fun t ht h => by
            have h3 := HQ.out.1 hc
            rcases Nat.lt_or_eq_of_le (Nat.le_of_lt_succ h) with h' | h'
            · have := (HM.out t ht).1 h'; omega
            · subst h'; rw [hx]; exact h3, HB.out.2⟩
          clear k5 hx
          go_wp2
          go_roundw
          case rel => exact ⟨m + 1, j, by go_num, rfl, by omega, hjn, HN, k5'⟩
          case measure => simp [intOf]; omega
        · have HN : Hid ((∀ t (ht : t < rs.length), t < i → hdI rs[t].1 < hdI r.1) ∧ (∀ t (ht : t < rs.length), m ≤ t → hdI r.1 ≤ hdI rs[t].1)) := Lib.hid ⟨HB.out.1, fun t ht h => by
            have h3 : ¬ hdI x.1 < hdI r.1 := fun h => hc (HQ.out.2 h)
            rcases Nat.lt_or_eq_of_le h with h' | h'
            · have := (HM.out t ht).2 h'; omega
            · subst h'; rw [hx]; omega⟩
          clear k5 hx
          go_wp2
          go_roundw
          case rel => exact ⟨i, m, rfl, by go_num, by omega, by omega, HN, k5'⟩
          case measure => simp [intOf]; omega
    · obtain rfl : i = j := by omega
      by_cases hin : i < rs.length
      · obtain ⟨b, o, rfl, hb, e0, e1⟩ := hA2 i rs[i] (List.getElem?_eq_getElem hin)
        have hx1 : rs[i].1.size = 1 := h1 _ (List.getElem_mem hin)
        obtain ⟨q1, q2⟩ := cmp_one hx1 hr
        have HS : Hid (∀ t (ht : t < rs.length), i < t → hdI rs[i].1 < hdI rs[t].1) := Lib.hid (fun t ht h => srt_at hs ht h)
        have zr : w.heap.size < wr.heap.size := Nat.lt_of_lt_of_le z1 k2.size
        have HQ := Lib.hid q2
        have hle := HB.out.2 i hin (Nat.le_refl _)
        have HL := Lib.hid hle
        clear q1 q2 hx1 hle
        generalize hx : rs[i] = x at *
        have hcv : Hid (∃ z : Int, cmpS x.1 r.1 = z) := Lib.hid ⟨_, rfl⟩
        obtain ⟨z, hz⟩ := hcv.out
        have HC := Lib.hid hz
        clear hcv hz
        go_wp2_with fail
        first | refine wp_region_noPanic ?_ | skip
        refine wp_region_held_drew (S := fun w' => w'.cell? ⟨b, o + i * 2, none⟩ = some (.string x.1) ∧ w'.cell? ⟨b, o + i * 2 + 1, none⟩ = some (.string x.2) ∧ w'.cell? ⟨w.heap.size, 0, none⟩ = some (.string r.1) ∧ w'.cell? ⟨w.heap.size, 1, none⟩ = some (.string r.2) ∧ Below w1.heap.size w1 w') (by kernel_rfl) (⟨e0, e1, a0, a1, ⟨k2.os, k2.tape, k2.output, k2.size, k2.block⟩⟩) (fun hHeld => ?_)
        first
          | (refine wpAnyH_take (i := 0) (oi := ?oi0A) (v := ?v0A) ?hi0A (by kernel_rfl) (by kernel_rfl) (by kernel_rfl) (fun _ _ _ h => h) (Or.inl ⟨?hw0A, ?hy0A⟩) hHeld ?rest0A
             case hi0A => (simp only [List.getElem?_toArray, List.getElem?_cons_zero]; rfl)
             case hw0A => (first | rfl | (simp [Region.wanted, yielded]; done))
             case hy0A => (intro w hSw; (try dsimp only at hSw); go_simp; try first | with_reducible rfl | (refine ⟨?_, rfl⟩; with_reducible rfl))
             try simp only [Act.put, List.setIfInBounds_toArray, List.set_cons_zero, List.set_cons_succ])
          | (refine wpAnyH_take (i := 0) (oi := ?oj0A) (v := undef) ?hj0A (by kernel_rfl) (by kernel_rfl) (by kernel_rfl) (fun _ _ _ h => h) (Or.inr ⟨?hx0A, rfl⟩) hHeld ?more0A
             case hj0A => (simp only [List.getElem?_toArray, List.getElem?_cons_zero]; rfl)
             case hx0A => (first | rfl | (simp [Region.wanted, yielded]; done))
             try simp only [Act.put, List.setIfInBounds_toArray, List.set_cons_zero, List.set_cons_succ])
          | fail
        first
          | (refine wpAnyH_take (i := 1) (oi := ?oi1A) (v := ?v1A) ?hi1A (by kernel_rfl) (by kernel_rfl) (by kernel_rfl) (fun _ _ _ h => h) (Or.inl ⟨?hw1A, ?hy1A⟩) hHeld ?rest1A
             case hi1A => (simp only [List.getElem?_toArray, List.getElem?_cons_succ, List.getElem?_cons_zero]; rfl)
             case hw1A => (first | rfl | (simp [Region.wanted, yielded]; done))
             case hy1A => (intro w hSw; (try dsimp only at hSw); go_simp; try first | with_reducible rfl | (refine ⟨?_, rfl⟩; with_reducible rfl))
             try simp only [Act.put, List.setIfInBounds_toArray, List.set_cons_zero, List.set_cons_succ])
          | (refine wpAnyH_take (i := 1) (oi := ?oj1A) (v := undef) ?hj1A (by kernel_rfl) (by kernel_rfl) (by kernel_rfl) (fun _ _ _ h => h) (Or.inr ⟨?hx1A, rfl⟩) hHeld ?more1A
             case hj1A => (simp only [List.getElem?_toArray, List.getElem?_cons_succ, List.getElem?_cons_zero]; rfl)
             case hx1A => (first | rfl | (simp [Region.wanted, yielded]; done))
             try simp only [Act.put, List.setIfInBounds_toArray, List.set_cons_zero, List.set_cons_succ])
          | fail
        first
          | (refine wpAnyH_take (i := 2) (oi := ?oi2A) (v := ?v2A) ?hi2A (by kernel_rfl) (by kernel_rfl) (by kernel_rfl) (fun _ _ _ h => h) (Or.inl ⟨?hw2A, ?hy2A⟩) hHeld ?rest2A
             case hi2A => (simp only [List.getElem?_toArray, List.getElem?_cons_succ, List.getElem?_cons_zero]; rfl)
             case hw2A => (first | rfl | (simp [Region.wanted, yielded]; done))
             case hy2A => (intro w hSw; (try dsimp only at hSw); go_simp; try first | with_reducible rfl | (refine ⟨?_, rfl⟩; with_reducible rfl))
             try simp only [Act.put, List.setIfInBounds_toArray, List.set_cons_zero, List.set_cons_succ])
          | (refine wpAnyH_take (i := 2) (oi := ?oj2A) (v := undef) ?hj2A (by kernel_rfl) (by kernel_rfl) (by kernel_rfl) (fun _ _ _ h => h) (Or.inr ⟨?hx2A, rfl⟩) hHeld ?more2A
             case hj2A => (simp only [List.getElem?_toArray, List.getElem?_cons_succ, List.getElem?_cons_zero]; rfl)
             case hx2A => (first | rfl | (simp [Region.wanted, yielded]; done))
             try simp only [Act.put, List.setIfInBounds_toArray, List.set_cons_zero, List.set_cons_succ])
          | fail
        first
          | (refine wpAnyH_take (i := 3) (oi := ?oi3A) (v := ?v3A) ?hi3A (by kernel_rfl) (by kernel_rfl) (by kernel_rfl) (fun _ _ _ h => h) (Or.inl ⟨?hw3A, ?hy3A⟩) hHeld ?rest3A
             case hi3A => (simp only [List.getElem?_toArray, List.getElem?_cons_succ, List.getElem?_cons_zero]; rfl)
             case hw3A => (first | rfl | (simp [Region.wanted, yielded]; done))
             case hy3A => (intro w hSw; (try dsimp only at hSw); go_simp; try first | with_reducible rfl | (refine ⟨?_, rfl⟩; with_reducible rfl))
             try simp only [Act.put, List.setIfInBounds_toArray, List.set_cons_zero, List.set_cons_succ])
          | (refine wpAnyH_take (i := 3) (oi := ?oj3A) (v := undef) ?hj3A (by kernel_rfl) (by kernel_rfl) (by kernel_rfl) (fun _ _ _ h => h) (Or.inr ⟨?hx3A, rfl⟩) hHeld ?more3A
             case hj3A => (simp only [List.getElem?_toArray, List.getElem?_cons_succ, List.getElem?_cons_zero]; rfl)
             case hx3A => (first | rfl | (simp [Region.wanted, yielded]; done))
             try simp only [Act.put, List.setIfInBounds_toArray, List.set_cons_zero, List.set_cons_succ])
          | fail
        first
          | (refine wpAnyH_take (i := 4) (oi := ?oi4A) (v := ?v4A) ?hi4A (by kernel_rfl) (by kernel_rfl) (by kernel_rfl) (fun _ _ _ h => h) (Or.inl ⟨?hw4A, ?hy4A⟩) hHeld ?rest4A
             case hi4A => (simp only [List.getElem?_toArray, List.getElem?_cons_succ, List.getElem?_cons_zero]; rfl)
             case hw4A => (first | rfl | (simp [Region.wanted, yielded]; done))
             case hy4A => (intro w hSw; (try dsimp only at hSw); go_simp; try first | with_reducible rfl | (refine ⟨?_, rfl⟩; with_reducible rfl))
             try simp only [Act.put, List.setIfInBounds_toArray, List.set_cons_zero, List.set_cons_succ])
          | (refine wpAnyH_take (i := 4) (oi := ?oj4A) (v := undef) ?hj4A (by kernel_rfl) (by kernel_rfl) (by kernel_rfl) (fun _ _ _ h => h) (Or.inr ⟨?hx4A, rfl⟩) hHeld ?more4A
             case hj4A => (simp only [List.getElem?_toArray, List.getElem?_cons_succ, List.getElem?_cons_zero]; rfl)
             case hx4A => (first | rfl | (simp [Region.wanted, yielded]; done))
             try simp only [Act.put, List.setIfInBounds_toArray, List.set_cons_zero, List.set_cons_succ])
          | fail
        first
          | (refine wpAnyH_take (i := 5) (oi := ?oi5A) (v := ?v5A) ?hi5A (by kernel_rfl) (by kernel_rfl) (by kernel_rfl) (fun _ _ _ h => h) (Or.inl ⟨?hw5A, ?hy5A⟩) hHeld ?rest5A
             case hi5A => (simp only [List.getElem?_toArray, List.getElem?_cons_succ, List.getElem?_cons_zero]; rfl)
             case hw5A => (first | rfl | (simp [Region.wanted, yielded]; done))
             case hy5A => (intro w hSw; (try dsimp only at hSw); go_simp; try first | with_reducible rfl | (refine ⟨?_, rfl⟩; with_reducible rfl))
             try simp only [Act.put, List.setIfInBounds_toArray, List.set_cons_zero, List.set_cons_succ])
          | (refine wpAnyH_take (i := 5) (oi := ?oj5A) (v := undef) ?hj5A (by kernel_rfl) (by kernel_rfl) (by kernel_rfl) (fun _ _ _ h => h) (Or.inr ⟨?hx5A, rfl⟩) hHeld ?more5A
             case hj5A => (simp only [List.getElem?_toArray, List.getElem?_cons_succ, List.getElem?_cons_zero]; rfl)
             case hx5A => (first | rfl | (simp [Region.wanted, yielded]; done))
             try simp only [Act.put, List.setIfInBounds_toArray, List.set_cons_zero, List.set_cons_succ])
          | fail
        first
          | (refine wpAnyH_take (i := 6) (oi := ?oi6A) (v := ?v6A) ?hi6A (by kernel_rfl) (by kernel_rfl) (by kernel_rfl) (fun _ _ _ h => h) (Or.inl ⟨?hw6A, ?hy6A⟩) hHeld ?rest6A
             case hi6A => (simp only [List.getElem?_toArray, List.getElem?_cons_succ, List.getElem?_cons_zero]; rfl)
             case hw6A => (first | rfl | (simp [Region.wanted, yielded]; done))
             case hy6A => (intro w hSw; (try dsimp only at hSw); go_simp; try first | with_reducible rfl | (refine ⟨?_, rfl⟩; with_reducible rfl))
             try simp only [Act.put, List.setIfInBounds_toArray, List.set_cons_zero, List.set_cons_succ])
          | (refine wpAnyH_take (i := 6) (oi := ?oj6A) (v := undef) ?hj6A (by kernel_rfl) (by kernel_rfl) (by kernel_rfl) (fun _ _ _ h => h) (Or.inr ⟨?hx6A, rfl⟩) hHeld ?more6A
             case hj6A => (simp only [List.getElem?_toArray, List.getElem?_cons_succ, List.getElem?_cons_zero]; rfl)
             case hx6A => (first | rfl | (simp [Region.wanted, yielded]; done))
             try simp only [Act.put, List.setIfInBounds_toArray, List.set_cons_zero, List.set_cons_succ])
          | fail
        first
          | (refine wpAnyH_take (i := 7) (oi := ?oi7A) (v := ?v7A) ?hi7A (by kernel_rfl) (by kernel_rfl) (by kernel_rfl) (fun _ _ _ h => h) (Or.inl ⟨?hw7A, ?hy7A⟩) hHeld ?rest7A
             case hi7A => (simp only [List.getElem?_toArray, List.getElem?_cons_succ, List.getElem?_cons_zero]; rfl)
             case hw7A => (first | rfl | (simp [Region.wanted, yielded]; done))
             case hy7A => (intro w hSw; (try dsimp only at hSw); go_simp; try first | with_reducible rfl | (refine ⟨?_, rfl⟩; with_reducible rfl))
             try simp only [Act.put, List.setIfInBounds_toArray, List.set_cons_zero, List.set_cons_succ])
          | (refine wpAnyH_take (i := 7) (oi := ?oj7A) (v := undef) ?hj7A (by kernel_rfl) (by kernel_rfl) (by kernel_rfl) (fun _ _ _ h => h) (Or.inr ⟨?hx7A, rfl⟩) hHeld ?more7A
             case hj7A => (simp only [List.getElem?_toArray, List.getElem?_cons_succ, List.getElem?_cons_zero]; rfl)
             case hx7A => (first | rfl | (simp [Region.wanted, yielded]; done))
             try simp only [Act.put, List.setIfInBounds_toArray, List.set_cons_zero, List.set_cons_succ])
          | fail
        first
          | (refine wpAnyH_take (i := 8) (oi := ?oi8A) (v := ?v8A) ?hi8A (by kernel_rfl) (by kernel_rfl) (by kernel_rfl) (fun _ _ _ h => h) (Or.inl ⟨?hw8A, ?hy8A⟩) hHeld ?rest8A
             case hi8A => (simp only [List.getElem?_toArray, List.getElem?_cons_succ, List.getElem?_cons_zero]; rfl)
             case hw8A => (first | rfl | (simp [Region.wanted, yielded]; done))
             case hy8A => (intro w hSw; (try dsimp only at hSw); go_simp; try first | with_reducible rfl | (refine ⟨?_, rfl⟩; with_reducible rfl))
             try simp only [Act.put, List.setIfInBounds_toArray, List.set_cons_zero, List.set_cons_succ])
          | (refine wpAnyH_take (i := 8) (oi := ?oj8A) (v := undef) ?hj8A (by kernel_rfl) (by kernel_rfl) (by kernel_rfl) (fun _ _ _ h => h) (Or.inr ⟨?hx8A, rfl⟩) hHeld ?more8A
             case hj8A => (simp only [List.getElem?_toArray, List.getElem?_cons_succ, List.getElem?_cons_zero]; rfl)
             case hx8A => (first | rfl | (simp [Region.wanted, yielded]; done))
             try simp only [Act.put, List.setIfInBounds_toArray, List.set_cons_zero, List.set_cons_succ])
          | fail
        first
          | (refine wpAnyH_take (i := 9) (oi := ?oi9A) (v := ?v9A) ?hi9A (by kernel_rfl) (by kernel_rfl) (by kernel_rfl) (fun _ _ _ h => h) (Or.inl ⟨?hw9A, ?hy9A⟩) hHeld ?rest9A
             case hi9A => (simp only [List.getElem?_toArray, List.getElem?_cons_succ, List.getElem?_cons_zero]; rfl)
             case hw9A => (first | rfl | (simp [Region.wanted, yielded]; done))
             case hy9A => (intro w hSw; (try dsimp only at hSw); go_simp; try first | with_reducible rfl | (refine ⟨?_, rfl⟩; with_reducible rfl))
             try simp only [Act.put, List.setIfInBounds_toArray, List.set_cons_zero, List.set_cons_succ])
          | (refine wpAnyH_take (i := 9) (oi := ?oj9A) (v := undef) ?hj9A (by kernel_rfl) (by kernel_rfl) (by kernel_rfl) (fun _ _ _ h => h) (Or.inr ⟨?hx9A, rfl⟩) hHeld ?more9A
             case hj9A => (simp only [List.getElem?_toArray, List.getElem?_cons_succ, List.getElem?_cons_zero]; rfl)
             case hx9A => (first | rfl | (simp [Region.wanted, yielded]; done))
             try simp only [Act.put, List.setIfInBounds_toArray, List.set_cons_zero, List.set_cons_succ])
          | fail
        first
          | (refine wpAnyH_take (i := 10) (oi := ?oi10A) (v := ?v10A) ?hi10A (by kernel_rfl) (by kernel_rfl) (by kernel_rfl) (fun _ _ _ h => h) (Or.inl ⟨?hw10A, ?hy10A⟩) hHeld ?rest10A
             case hi10A => (simp only [List.getElem?_toArray, List.getElem?_cons_succ, List.getElem?_cons_zero]; rfl)
             case hw10A => (first | rfl | (simp [Region.wanted, yielded]; done))
             case hy10A => (intro w hSw; (try dsimp only at hSw); go_simp; try first | with_reducible rfl | (refine ⟨?_, rfl⟩; with_reducible rfl))
             try simp only [Act.put, List.setIfInBounds_toArray, List.set_cons_zero, List.set_cons_succ])
          | (refine wpAnyH_take (i := 10) (oi := ?oj10A) (v := undef) ?hj10A (by kernel_rfl) (by kernel_rfl) (by kernel_rfl) (fun _ _ _ h => h) (Or.inr ⟨?hx10A, rfl⟩) hHeld ?more10A
             case hj10A => (simp only [List.getElem?_toArray, List.getElem?_cons_succ, List.getElem?_cons_zero]; rfl)
             case hx10A => (first | rfl | (simp [Region.wanted, yielded]; done))
             try simp only [Act.put, List.setIfInBounds_toArray, List.set_cons_zero, List.set_cons_succ])
          | fail
        refine wpAnyH_ready (rs := [11]) (by kernel_rfl) (by simp) ?_
        refine AllReadyH.cons rfl (fun K hK => ?_) AllReadyH.nil
        go_simp
        refine (putCmp_any x r _).mono ?_
        rintro e w5 ⟨rfl, k5⟩
        have kk5 : Below wr.heap.size wr w5 := (Below.refl _ _).drew.trans k5
        rw [HC.out]
        go_simp
        refine hK.out _ _ (by exact ⟨(kk5.cell (p := ⟨b, o + i * 2, none⟩) hb).trans e0, (kk5.cell (p := ⟨b, o + i * 2 + 1, none⟩) hb).trans e1, (kk5.cell (p := ⟨w.heap.size, 0, none⟩) zr).trans a0, (kk5.cell (p := ⟨w.heap.size, 1, none⟩) zr).trans a1, Below.step k2 kk5⟩) (fun hHeld => ?_)
        clear hK K
        try simp only [Act.put, List.setIfInBounds_toArray, List.set_cons_zero, List.set_cons_succ]
        first
          | (refine wpAnyH_take (i := 12) (oi := ?oi12A) (v := ?v12A) ?hi12A (by kernel_rfl) (by kernel_rfl) (by kernel_rfl) (fun _ _ _ h => h) (Or.inl ⟨?hw12A, ?hy12A⟩) hHeld ?rest12A
             case hi12A => (simp only [List.getElem?_toArray, List.getElem?_cons_succ, List.getElem?_cons_zero]; rfl)
             case hw12A => (first | rfl | (simp [Region.wanted, yielded]; done))
             case hy12A => (intro w hSw; (try dsimp only at hSw); go_simp; try first | with_reducible rfl | (refine ⟨?_, rfl⟩; with_reducible rfl))
             try simp only [Act.put, List.setIfInBounds_toArray, List.set_cons_zero, List.set_cons_succ])
          | (refine wpAnyH_take (i := 12) (oi := ?oj12A) (v := undef) ?hj12A (by kernel_rfl) (by kernel_rfl) (by kernel_rfl) (fun _ _ _ h => h) (Or.inr ⟨?hx12A, rfl⟩) hHeld ?more12A
             case hj12A => (simp only [List.getElem?_toArray, List.getElem?_cons_succ, List.getElem?_cons_zero]; rfl)
             case hx12A => (first | rfl | (simp [Region.wanted, yielded]; done))
             try simp only [Act.put, List.setIfInBounds_toArray, List.set_cons_zero, List.set_cons_succ])
          | fail
        first
          | (refine wpAnyH_take (i := 13) (oi := ?oi13A) (v := ?v13A) ?hi13A (by kernel_rfl) (by kernel_rfl) (by kernel_rfl) (fun _ _ _ h => h) (Or.inl ⟨?hw13A, ?hy13A⟩) hHeld ?rest13A
             case hi13A => (simp only [List.getElem?_toArray, List.getElem?_cons_succ, List.getElem?_cons_zero]; rfl)
             case hw13A => (first | rfl | (simp [Region.wanted, yielded]; done))
             case hy13A => (intro w hSw; (try dsimp only at hSw); go_simp; try first | with_reducible rfl | (refine ⟨?_, rfl⟩; with_reducible rfl))
             try simp only [Act.put, List.setIfInBounds_toArray, List.set_cons_zero, List.set_cons_succ])
          | (refine wpAnyH_take (i := 13) (oi := ?oj13A) (v := undef) ?hj13A (by kernel_rfl) (by kernel_rfl) (by kernel_rfl) (fun _ _ _ h => h) (Or.inr ⟨?hx13A, rfl⟩) hHeld ?more13A
             case hj13A => (simp only [List.getElem?_toArray, List.getElem?_cons_succ, List.getElem?_cons_zero]; rfl)
             case hx13A => (first | rfl | (simp [Region.wanted, yielded]; done))
             try simp only [Act.put, List.setIfInBounds_toArray, List.set_cons_zero, List.set_cons_succ])
          | fail
        first
          | (refine wpAnyH_take (i := 14) (oi := ?oi14A) (v := ?v14A) ?hi14A (by kernel_rfl) (by kernel_rfl) (by kernel_rfl) (fun _ _ _ h => h) (Or.inl ⟨?hw14A, ?hy14A⟩) hHeld ?rest14A
             case hi14A => (simp only [List.getElem?_toArray, List.getElem?_cons_succ, List.getElem?_cons_zero]; rfl)
             case hw14A => (first | rfl | (simp [Region.wanted, yielded]; done))
             case hy14A => (intro w hSw; (try dsimp only at hSw); go_simp; try first | with_reducible rfl | (refine ⟨?_, rfl⟩; with_reducible rfl))
             try simp only [Act.put, List.setIfInBounds_toArray, List.set_cons_zero, List.set_cons_succ])
          | (refine wpAnyH_take (i := 14) (oi := ?oj14A) (v := undef) ?hj14A (by kernel_rfl) (by kernel_rfl) (by kernel_rfl) (fun _ _ _ h => h) (Or.inr ⟨?hx14A, rfl⟩) hHeld ?more14A
             case hj14A => (simp only [List.getElem?_toArray, List.getElem?_cons_succ, List.getElem?_cons_zero]; rfl)
             case hx14A => (first | rfl | (simp [Region.wanted, yielded]; done))
             try simp only [Act.put, List.setIfInBounds_toArray, List.set_cons_zero, List.set_cons_succ])
          | fail
        first
          | (refine wpAnyH_take (i := 15) (oi := ?oi15A) (v := ?v15A) ?hi15A (by kernel_rfl) (by kernel_rfl) (by kernel_rfl) (fun _ _ _ h => h) (Or.inl ⟨?hw15A, ?hy15A⟩) hHeld ?rest15A
             case hi15A => (simp only [List.getElem?_toArray, List.getElem?_cons_succ, List.getElem?_cons_zero]; rfl)
             case hw15A => (first | rfl | (simp [Region.wanted, yielded]; done))
             case hy15A => (intro w hSw; (try dsimp only at hSw); go_simp; try first | with_reducible rfl | (refine ⟨?_, rfl⟩; with_reducible rfl))
             try simp only [Act.put, List.setIfInBounds_toArray, List.set_cons_zero, List.set_cons_succ])
          | (refine wpAnyH_take (i := 15) (oi := ?oj15A) (v := undef) ?hj15A (by kernel_rfl) (by kernel_rfl) (by kernel_rfl) (fun _ _ _ h => h) (Or.inr ⟨?hx15A, rfl⟩) hHeld ?more15A
             case hj15A => (simp only [List.getElem?_toArray, List.getElem?_cons_succ, List.getElem?_cons_zero]; rfl)
             case hx15A => (first | rfl | (simp [Region.wanted, yielded]; done))
             try simp only [Act.put, List.setIfInBounds_toArray, List.set_cons_zero, List.set_cons_succ])
          | fail
        refine wpAnyH_done (by kernel_rfl) ?_ _
        first | refine NoPanic.normal ?_ | skip
        have HN : Hid (((z == 0) = true → ∃ h : i < rs.length, hdI rs[i].1 = hdI r.1) ∧ ((z == 0) = false → ∀ t (ht : t < rs.length), i ≤ t → hdI r.1 < hdI rs[t].1)) := Lib.hid ⟨fun h => ⟨hin, by rw [hx]; exact HQ.out.1 (by rw [HC.out]; simpa using h)⟩, fun h t ht hit => by
          have h3 : ¬ hdI x.1 = hdI r.1 := fun e => by
            have := HQ.out.2 e
            rw [HC.out] at this
            rw [this] at h
            cases h
          have h4 := HL.out
          rcases Nat.lt_or_eq_of_le hit with h' | h'
          · have := HS.out t ht h'
            omega
          · subst h'; rw [hx]; omega⟩
        have hBl := Below.step k1 (Below.step k2 kk5)
        clear hHeld
        go_wp2
        exact bodyPost_ret (v := .tuple #[.int .i64 i, .bool (z == 0)]) (by simp [results, Try.results73, go_sem]) rfl ⟨i, (z == 0), rfl, by omega, HB.out.1, HN.out.1, HN.out.2, hBl⟩
      · go_wp2_with fail
        first | refine wp_region_noPanic ?_ | skip
        refine wp_region_held_drew (S := fun w' => Below w1.heap.size w1 w') (by kernel_rfl) (⟨k2.os, k2.tape, k2.output, k2.size, k2.block⟩) (fun hHeld => ?_)
        first
          | (refine wpAnyH_take (i := 0) (oi := ?oi0B) (v := ?v0B) ?hi0B (by kernel_rfl) (by kernel_rfl) (by kernel_rfl) (fun _ _ _ h => h) (Or.inl ⟨?hw0B, ?hy0B⟩) hHeld ?rest0B
             case hi0B => (simp only [List.getElem?_toArray, List.getElem?_cons_zero]; rfl)
             case hw0B => (first | rfl | (simp [Region.wanted, yielded]; done))
             case hy0B => (intro w hSw; (try dsimp only at hSw); go_simp; try first | with_reducible rfl | (refine ⟨?_, rfl⟩; with_reducible rfl))
             try simp only [Act.put, List.setIfInBounds_toArray, List.set_cons_zero, List.set_cons_succ])
          | (refine wpAnyH_take (i := 0) (oi := ?oj0B) (v := undef) ?hj0B (by kernel_rfl) (by kernel_rfl) (by kernel_rfl) (fun _ _ _ h => h) (Or.inr ⟨?hx0B, rfl⟩) hHeld ?more0B
             case hj0B => (simp only [List.getElem?_toArray, List.getElem?_cons_zero]; rfl)
             case hx0B => (first | rfl | (simp [Region.wanted, yielded]; done))
             try simp only [Act.put, List.setIfInBounds_toArray, List.set_cons_zero, List.set_cons_succ])
          | fail
        first
          | (refine wpAnyH_take (i := 1) (oi := ?oi1B) (v := ?v1B) ?hi1B (by kernel_rfl) (by kernel_rfl) (by kernel_rfl) (fun _ _ _ h => h) (Or.inl ⟨?hw1B, ?hy1B⟩) hHeld ?rest1B
             case hi1B => (simp only [List.getElem?_toArray, List.getElem?_cons_succ, List.getElem?_cons_zero]; rfl)
             case hw1B => (first | rfl | (simp [Region.wanted, yielded]; done))
             case hy1B => (intro w hSw; (try dsimp only at hSw); go_simp; try first | with_reducible rfl | (refine ⟨?_, rfl⟩; with_reducible rfl))
             try simp only [Act.put, List.setIfInBounds_toArray, List.set_cons_zero, List.set_cons_succ])
          | (refine wpAnyH_take (i := 1) (oi := ?oj1B) (v := undef) ?hj1B (by kernel_rfl) (by kernel_rfl) (by kernel_rfl) (fun _ _ _ h => h) (Or.inr ⟨?hx1B, rfl⟩) hHeld ?more1B
             case hj1B => (simp only [List.getElem?_toArray, List.getElem?_cons_succ, List.getElem?_cons_zero]; rfl)
             case hx1B => (first | rfl | (simp [Region.wanted, yielded]; done))
             try simp only [Act.put, List.setIfInBounds_toArray, List.set_cons_zero, List.set_cons_succ])
          | fail
        first
          | (refine wpAnyH_take (i := 2) (oi := ?oi2B) (v := ?v2B) ?hi2B (by kernel_rfl) (by kernel_rfl) (by kernel_rfl) (fun _ _ _ h => h) (Or.inl ⟨?hw2B, ?hy2B⟩) hHeld ?rest2B
             case hi2B => (simp only [List.getElem?_toArray, List.getElem?_cons_succ, List.getElem?_cons_zero]; rfl)
             case hw2B => (first | rfl | (simp [Region.wanted, yielded]; done))
             case hy2B => (intro w hSw; (try dsimp only at hSw); go_simp; try first | with_reducible rfl | (refine ⟨?_, rfl⟩; with_reducible rfl))
             try simp only [Act.put, List.setIfInBounds_toArray, List.set_cons_zero, List.set_cons_succ])
          | (refine wpAnyH_take (i := 2) (oi := ?oj2B) (v := undef) ?hj2B (by kernel_rfl) (by kernel_rfl) (by kernel_rfl) (fun _ _ _ h => h) (Or.inr ⟨?hx2B, rfl⟩) hHeld ?more2B
             case hj2B => (simp only [List.getElem?_toArray, List.getElem?_cons_succ, List.getElem?_cons_zero]; rfl)
             case hx2B => (first | rfl | (simp [Region.wanted, yielded]; done))
             try simp only [Act.put, List.setIfInBounds_toArray, List.set_cons_zero, List.set_cons_succ])
          | fail
        first
          | (refine wpAnyH_take (i := 3) (oi := ?oi3B) (v := ?v3B) ?hi3B (by kernel_rfl) (by kernel_rfl) (by kernel_rfl) (fun _ _ _ h => h) (Or.inl ⟨?hw3B, ?hy3B⟩) hHeld ?rest3B
             case hi3B => (simp only [List.getElem?_toArray, List.getElem?_cons_succ, List.getElem?_cons_zero]; rfl)
             case hw3B => (first | rfl | (simp [Region.wanted, yielded]; done))
             case hy3B => (intro w hSw; (try dsimp only at hSw); go_simp; try first | with_reducible rfl | (refine ⟨?_, rfl⟩; with_reducible rfl))
             try simp only [Act.put, List.setIfInBounds_toArray, List.set_cons_zero, List.set_cons_succ])
          | (refine wpAnyH_take (i := 3) (oi := ?oj3B) (v := undef) ?hj3B (by kernel_rfl) (by kernel_rfl) (by kernel_rfl) (fun _ _ _ h => h) (Or.inr ⟨?hx3B, rfl⟩) hHeld ?more3B
             case hj3B => (simp only [List.getElem?_toArray, List.getElem?_cons_succ, List.getElem?_cons_zero]; rfl)
             case hx3B => (first | rfl | (simp [Region.wanted, yielded]; done))
             try simp only [Act.put, List.setIfInBounds_toArray, List.set_cons_zero, List.set_cons_succ])
          | fail
        first
          | (refine wpAnyH_take (i := 4) (oi := ?oi4B) (v := ?v4B) ?hi4B (by kernel_rfl) (by kernel_rfl) (by kernel_rfl) (fun _ _ _ h => h) (Or.inl ⟨?hw4B, ?hy4B⟩) hHeld ?rest4B
             case hi4B => (simp only [List.getElem?_toArray, List.getElem?_cons_succ, List.getElem?_cons_zero]; rfl)
             case hw4B => (first | rfl | (simp [Region.wanted, yielded]; done))
             case hy4B => (intro w hSw; (try dsimp only at hSw); go_simp; try first | with_reducible rfl | (refine ⟨?_, rfl⟩; with_reducible rfl))
             try simp only [Act.put, List.setIfInBounds_toArray, List.set_cons_zero, List.set_cons_succ])
          | (refine wpAnyH_take (i := 4) (oi := ?oj4B) (v := undef) ?hj4B (by kernel_rfl) (by kernel_rfl) (by kernel_rfl) (fun _ _ _ h => h) (Or.inr ⟨?hx4B, rfl⟩) hHeld ?more4B
             case hj4B => (simp only [List.getElem?_toArray, List.getElem?_cons_succ, List.getElem?_cons_zero]; rfl)
             case hx4B => (first | rfl | (simp [Region.wanted, yielded]; done))
             try simp only [Act.put, List.setIfInBounds_toArray, List.set_cons_zero, List.set_cons_succ])
          | fail
        first
          | (refine wpAnyH_take (i := 5) (oi := ?oi5B) (v := ?v5B) ?hi5B (by kernel_rfl) (by kernel_rfl) (by kernel_rfl) (fun _ _ _ h => h) (Or.inl ⟨?hw5B, ?hy5B⟩) hHeld ?rest5B
             case hi5B => (simp only [List.getElem?_toArray, List.getElem?_cons_succ, List.getElem?_cons_zero]; rfl)
             case hw5B => (first | rfl | (simp [Region.wanted, yielded]; done))
             case hy5B => (intro w hSw; (try dsimp only at hSw); go_simp; try first | with_reducible rfl | (refine ⟨?_, rfl⟩; with_reducible rfl))
             try simp only [Act.put, List.setIfInBounds_toArray, List.set_cons_zero, List.set_cons_succ])
          | (refine wpAnyH_take (i := 5) (oi := ?oj5B) (v := undef) ?hj5B (by kernel_rfl) (by kernel_rfl) (by kernel_rfl) (fun _ _ _ h => h) (Or.inr ⟨?hx5B, rfl⟩) hHeld ?more5B
             case hj5B => (simp only [List.getElem?_toArray, List.getElem?_cons_succ, List.getElem?_cons_zero]; rfl)
             case hx5B => (first | rfl | (simp [Region.wanted, yielded]; done))
             try simp only [Act.put, List.setIfInBounds_toArray, List.set_cons_zero, List.set_cons_succ])
          | fail
        first
          | (refine wpAnyH_take (i := 6) (oi := ?oi6B) (v := ?v6B) ?hi6B (by kernel_rfl) (by kernel_rfl) (by kernel_rfl) (fun _ _ _ h => h) (Or.inl ⟨?hw6B, ?hy6B⟩) hHeld ?rest6B
             case hi6B => (simp only [List.getElem?_toArray, List.getElem?_cons_succ, List.getElem?_cons_zero]; rfl)
             case hw6B => (first | rfl | (simp [Region.wanted, yielded]; done))
             case hy6B => (intro w hSw; (try dsimp only at hSw); go_simp; try first | with_reducible rfl | (refine ⟨?_, rfl⟩; with_reducible rfl))
             try simp only [Act.put, List.setIfInBounds_toArray, List.set_cons_zero, List.set_cons_succ])
          | (refine wpAnyH_take (i := 6) (oi := ?oj6B) (v := undef) ?hj6B (by kernel_rfl) (by kernel_rfl) (by kernel_rfl) (fun _ _ _ h => h) (Or.inr ⟨?hx6B, rfl⟩) hHeld ?more6B
             case hj6B => (simp only [List.getElem?_toArray, List.getElem?_cons_succ, List.getElem?_cons_zero]; rfl)
             case hx6B => (first | rfl | (simp [Region.wanted, yielded]; done))
             try simp only [Act.put, List.setIfInBounds_toArray, List.set_cons_zero, List.set_cons_succ])
          | fail
        first
          | (refine wpAnyH_take (i := 7) (oi := ?oi7B) (v := ?v7B) ?hi7B (by kernel_rfl) (by kernel_rfl) (by kernel_rfl) (fun _ _ _ h => h) (Or.inl ⟨?hw7B, ?hy7B⟩) hHeld ?rest7B
             case hi7B => (simp only [List.getElem?_toArray, List.getElem?_cons_succ, List.getElem?_cons_zero]; rfl)
             case hw7B => (first | rfl | (simp [Region.wanted, yielded]; done))
             case hy7B => (intro w hSw; (try dsimp only at hSw); go_simp; try first | with_reducible rfl | (refine ⟨?_, rfl⟩; with_reducible rfl))
             try simp only [Act.put, List.setIfInBounds_toArray, List.set_cons_zero, List.set_cons_succ])
          | (refine wpAnyH_take (i := 7) (oi := ?oj7B) (v := undef) ?hj7B (by kernel_rfl) (by kernel_rfl) (by kernel_rfl) (fun _ _ _ h => h) (Or.inr ⟨?hx7B, rfl⟩) hHeld ?more7B
             case hj7B => (simp only [List.getElem?_toArray, List.getElem?_cons_succ, List.getElem?_cons_zero]; rfl)
             case hx7B => (first | rfl | (simp [Region.wanted, yielded]; done))
             try simp only [Act.put, List.setIfInBounds_toArray, List.set_cons_zero, List.set_cons_succ])
          | fail
        first
          | (refine wpAnyH_take (i := 8) (oi := ?oi8B) (v := ?v8B) ?hi8B (by kernel_rfl) (by kernel_rfl) (by kernel_rfl) (fun _ _ _ h => h) (Or.inl ⟨?hw8B, ?hy8B⟩) hHeld ?rest8B
             case hi8B => (simp only [List.getElem?_toArray, List.getElem?_cons_succ, List.getElem?_cons_zero]; rfl)
             case hw8B => (first | rfl | (simp [Region.wanted, yielded]; done))
             case hy8B => (intro w hSw; (try dsimp only at hSw); go_simp; try first | with_reducible rfl | (refine ⟨?_, rfl⟩; with_reducible rfl))
             try simp only [Act.put, List.setIfInBounds_toArray, List.set_cons_zero, List.set_cons_succ])
          | (refine wpAnyH_take (i := 8) (oi := ?oj8B) (v := undef) ?hj8B (by kernel_rfl) (by kernel_rfl) (by kernel_rfl) (fun _ _ _ h => h) (Or.inr ⟨?hx8B, rfl⟩) hHeld ?more8B
             case hj8B => (simp only [List.getElem?_toArray, List.getElem?_cons_succ, List.getElem?_cons_zero]; rfl)
             case hx8B => (first | rfl | (simp [Region.wanted, yielded]; done))
             try simp only [Act.put, List.setIfInBounds_toArray, List.set_cons_zero, List.set_cons_succ])
          | fail
        first
          | (refine wpAnyH_take (i := 9) (oi := ?oi9B) (v := ?v9B) ?hi9B (by kernel_rfl) (by kernel_rfl) (by kernel_rfl) (fun _ _ _ h => h) (Or.inl ⟨?hw9B, ?hy9B⟩) hHeld ?rest9B
             case hi9B => (simp only [List.getElem?_toArray, List.getElem?_cons_succ, List.getElem?_cons_zero]; rfl)
             case hw9B => (first | rfl | (simp [Region.wanted, yielded]; done))
             case hy9B => (intro w hSw; (try dsimp only at hSw); go_simp; try first | with_reducible rfl | (refine ⟨?_, rfl⟩; with_reducible rfl))
             try simp only [Act.put, List.setIfInBounds_toArray, List.set_cons_zero, List.set_cons_succ])
          | (refine wpAnyH_take (i := 9) (oi := ?oj9B) (v := undef) ?hj9B (by kernel_rfl) (by kernel_rfl) (by kernel_rfl) (fun _ _ _ h => h) (Or.inr ⟨?hx9B, rfl⟩) hHeld ?more9B
             case hj9B => (simp only [List.getElem?_toArray, List.getElem?_cons_succ, List.getElem?_cons_zero]; rfl)
             case hx9B => (first | rfl | (simp [Region.wanted, yielded]; done))
             try simp only [Act.put, List.setIfInBounds_toArray, List.set_cons_zero, List.set_cons_succ])
          | fail
        first
          | (refine wpAnyH_take (i := 10) (oi := ?oi10B) (v := ?v10B) ?hi10B (by kernel_rfl) (by kernel_rfl) (by kernel_rfl) (fun _ _ _ h => h) (Or.inl ⟨?hw10B, ?hy10B⟩) hHeld ?rest10B
             case hi10B => (simp only [List.getElem?_toArray, List.getElem?_cons_succ, List.getElem?_cons_zero]; rfl)
             case hw10B => (first | rfl | (simp [Region.wanted, yielded]; done))
             case hy10B => (intro w hSw; (try dsimp only at hSw); go_simp; try first | with_reducible rfl | (refine ⟨?_, rfl⟩; with_reducible rfl))
             try simp only [Act.put, List.setIfInBounds_toArray, List.set_cons_zero, List.set_cons_succ])
          | (refine wpAnyH_take (i := 10) (oi := ?oj10B) (v := undef) ?hj10B (by kernel_rfl) (by kernel_rfl) (by kernel_rfl) (fun _ _ _ h => h) (Or.inr ⟨?hx10B, rfl⟩) hHeld ?more10B
             case hj10B => (simp only [List.getElem?_toArray, List.getElem?_cons_succ, List.getElem?_cons_zero]; rfl)
             case hx10B => (first | rfl | (simp [Region.wanted, yielded]; done))
             try simp only [Act.put, List.setIfInBounds_toArray, List.set_cons_zero, List.set_cons_succ])
          | fail
        first
          | (refine wpAnyH_take (i := 11) (oi := ?oi11B) (v := ?v11B) ?hi11B (by kernel_rfl) (by kernel_rfl) (by kernel_rfl) (fun _ _ _ h => h) (Or.inl ⟨?hw11B, ?hy11B⟩) hHeld ?rest11B
             case hi11B => (simp only [List.getElem?_toArray, List.getElem?_cons_succ, List.getElem?_cons_zero]; rfl)
             case hw11B => (first | rfl | (simp [Region.wanted, yielded]; done))
             case hy11B => (intro w hSw; (try dsimp only at hSw); go_simp; try first | with_reducible rfl | (refine ⟨?_, rfl⟩; with_reducible rfl))
             try simp only [Act.put, List.setIfInBounds_toArray, List.set_cons_zero, List.set_cons_succ])
          | (refine wpAnyH_take (i := 11) (oi := ?oj11B) (v := undef) ?hj11B (by kernel_rfl) (by kernel_rfl) (by kernel_rfl) (fun _ _ _ h => h) (Or.inr ⟨?hx11B, rfl⟩) hHeld ?more11B
             case hj11B => (simp only [List.getElem?_toArray, List.getElem?_cons_succ, List.getElem?_cons_zero]; rfl)
             case hx11B => (first | rfl | (simp [Region.wanted, yielded]; done))
             try simp only [Act.put, List.setIfInBounds_toArray, List.set_cons_zero, List.set_cons_succ])
          | fail
        first
          | (refine wpAnyH_take (i := 12) (oi := ?oi12B) (v := ?v12B) ?hi12B (by kernel_rfl) (by kernel_rfl) (by kernel_rfl) (fun _ _ _ h => h) (Or.inl ⟨?hw12B, ?hy12B⟩) hHeld ?rest12B
             case hi12B => (simp only [List.getElem?_toArray, List.getElem?_cons_succ, List.getElem?_cons_zero]; rfl)
             case hw12B => (first | rfl | (simp [Region.wanted, yielded]; done))
             case hy12B => (intro w hSw; (try dsimp only at hSw); go_simp; try first | with_reducible rfl | (refine ⟨?_, rfl⟩; with_reducible rfl))
             try simp only [Act.put, List.setIfInBounds_toArray, List.set_cons_zero, List.set_cons_succ])
          | (refine wpAnyH_take (i := 12) (oi := ?oj12B) (v := undef) ?hj12B (by kernel_rfl) (by kernel_rfl) (by kernel_rfl) (fun _ _ _ h => h) (Or.inr ⟨?hx12B, rfl⟩) hHeld ?more12B
             case hj12B => (simp only [List.getElem?_toArray, List.getElem?_cons_succ, List.getElem?_cons_zero]; rfl)
             case hx12B => (first | rfl | (simp [Region.wanted, yielded]; done))
             try simp only [Act.put, List.setIfInBounds_toArray, List.set_cons_zero, List.set_cons_succ])
          | fail
        first
          | (refine wpAnyH_take (i := 13) (oi := ?oi13B) (v := ?v13B) ?hi13B (by kernel_rfl) (by kernel_rfl) (by kernel_rfl) (fun _ _ _ h => h) (Or.inl ⟨?hw13B, ?hy13B⟩) hHeld ?rest13B
             case hi13B => (simp only [List.getElem?_toArray, List.getElem?_cons_succ, List.getElem?_cons_zero]; rfl)
             case hw13B => (first | rfl | (simp [Region.wanted, yielded]; done))
             case hy13B => (intro w hSw; (try dsimp only at hSw); go_simp; try first | with_reducible rfl | (refine ⟨?_, rfl⟩; with_reducible rfl))
             try simp only [Act.put, List.setIfInBounds_toArray, List.set_cons_zero, List.set_cons_succ])
          | (refine wpAnyH_take (i := 13) (oi := ?oj13B) (v := undef) ?hj13B (by kernel_rfl) (by kernel_rfl) (by kernel_rfl) (fun _ _ _ h => h) (Or.inr ⟨?hx13B, rfl⟩) hHeld ?more13B
             case hj13B => (simp only [List.getElem?_toArray, List.getElem?_cons_succ, List.getElem?_cons_zero]; rfl)
             case hx13B => (first | rfl | (simp [Region.wanted, yielded]; done))
             try simp only [Act.put, List.setIfInBounds_toArray, List.set_cons_zero, List.set_cons_succ])
          | fail
        first
          | (refine wpAnyH_take (i := 14) (oi := ?oi14B) (v := ?v14B) ?hi14B (by kernel_rfl) (by kernel_rfl) (by kernel_rfl) (fun _ _ _ h => h) (Or.inl ⟨?hw14B, ?hy14B⟩) hHeld ?rest14B
             case hi14B => (simp only [List.getElem?_toArray, List.getElem?_cons_succ, List.getElem?_cons_zero]; rfl)
             case hw14B => (first | rfl | (simp [Region.wanted, yielded]; done))
             case hy14B => (intro w hSw; (try dsimp only at hSw); go_simp; try first | with_reducible rfl | (refine ⟨?_, rfl⟩; with_reducible rfl))
             try simp only [Act.put, List.setIfInBounds_toArray, List.set_cons_zero, List.set_cons_succ])
          | (refine wpAnyH_take (i := 14) (oi := ?oj14B) (v := undef) ?hj14B (by kernel_rfl) (by kernel_rfl) (by kernel_rfl) (fun _ _ _ h => h) (Or.inr ⟨?hx14B, rfl⟩) hHeld ?more14B
             case hj14B => (simp only [List.getElem?_toArray, List.getElem?_cons_succ, List.getElem?_cons_zero]; rfl)
             case hx14B => (first | rfl | (simp [Region.wanted, yielded]; done))
             try simp only [Act.put, List.setIfInBounds_toArray, List.set_cons_zero, List.set_cons_succ])
          | fail
        first
          | (refine wpAnyH_take (i := 15) (oi := ?oi15B) (v := ?v15B) ?hi15B (by kernel_rfl) (by kernel_rfl) (by kernel_rfl) (fun _ _ _ h => h) (Or.inl ⟨?hw15B, ?hy15B⟩) hHeld ?rest15B
             case hi15B => (simp only [List.getElem?_toArray, List.getElem?_cons_succ, List.getElem?_cons_zero]; rfl)
             case hw15B => (first | rfl | (simp [Region.wanted, yielded]; done))
             case hy15B => (intro w hSw; (try dsimp only at hSw); go_simp; try first | with_reducible rfl | (refine ⟨?_, rfl⟩; with_reducible rfl))
             try simp only [Act.put, List.setIfInBounds_toArray, List.set_cons_zero, List.set_cons_succ])
          | (refine wpAnyH_take (i := 15) (oi := ?oj15B) (v := undef) ?hj15B (by kernel_rfl) (by kernel_rfl) (by kernel_rfl) (fun _ _ _ h => h) (Or.inr ⟨?hx15B, rfl⟩) hHeld ?more15B
             case hj15B => (simp only [List.getElem?_toArray, List.getElem?_cons_succ, List.getElem?_cons_zero]; rfl)
             case hx15B => (first | rfl | (simp [Region.wanted, yielded]; done))
             try simp only [Act.put, List.setIfInBounds_toArray, List.set_cons_zero, List.set_cons_succ])
          | fail
        refine wpAnyH_done (by kernel_rfl) ?_ _
        first | refine NoPanic.normal ?_ | skip
        have hBl := Below.step k1 hHeld
        go_wp2
        exact bodyPost_ret (v := .tuple #[.int .i64 i, .bool false]) (by simp [results, Try.results73, go_sem]) rfl ⟨i, false, rfl, by omega, HB.out.1, (fun h => by cases h), (fun _ t ht hit => absurd ht (by omega)), hBl⟩
end Go.Proofs.Ytfblpibioegmkaa
