/- IslandsOver, the program's side. -/
import Derived.Test.YtcdipgkdbannmaaGrp
import Derived.Test.YtcdipgkdbannmaaCoastB
import Derived.Laws.Small
namespace Go.Proofs.Ytcdipgkdbannmaa
open Go.RowKit

/-- Is a height over the level? -/
def ovB (l : List Nat) (lev : Nat) (i : Nat) : Bool := ford .f32 (l.getD i 0) lev == some .gt
theorem ovB_at {xs : List Nat} {lev i : Nat} (h : i < xs.length) : ovB (cl xs) (cn .f32 lev) i = (ford .f32 (cn .f32 xs[i]) (cn .f32 lev) == some .gt) := by
  unfold ovB; simp [cl, h]
set_option maxRecDepth 100000 in
set_option maxHeartbeats 1000000 in
theorem isl1_any (p pl i : Nat) (A : Option Addr) (c : Nat) (xs : List Nat) (lev : Nat) (w : World) (hA : FRd w A xs) (hi : i < xs.length)
    (c2 : w.cell? ⟨p, 2, none⟩ = some (.slice A xs.length c)) (cl_ : w.cell? ⟨pl, 0, none⟩ = some (.float .f32 lev)) :
    Calls Try.prog 53 #[.int .i64 (i : Nat), .pointer (some ⟨p, 0, none⟩), .pointer (some ⟨pl, 0, none⟩)] w fun e w' => e = .returned (.bool (ovB (cl xs) (cn .f32 lev) i)) ∧ ∃ n, w' = w.drewN n := by
  have HV := Lib.hid (ovB_at (lev := lev) hi)
  obtain ⟨b, o, rfl, hb, hc⟩ := hA.at_ hi
  generalize xs[i] = v at hc HV
  have hii : (i : Int) < xs.length := by omega
  clear hA
  go_enter Try.func53, Try.ntmps53
  go_wp2_with fail
  go_quiet (fail)
  go_wp2
  go_ret
  exact ⟨ret_bool HV.out.symm, _, rfl⟩
theorem enter_isl1 : ∀ args w, (callFunc 53 args).run Try.prog w = .ok (.enter 53 args) w := fun args w => by
  simp only [callFunc]
  have h1 : ¬ (Try.f53.name = "runtime.NumGoroutine") := by decide +kernel
  have h2 : Try.f53.body.isSome = true := by kernel_rfl
  have h3 : ¬ (Try.f53.body = none) := fun h => by rw [h] at h2; cases h2
  simp [h1, h3]
/-- How many islands, and how large the largest one is. -/
def maxL (cs : List Nat) : Nat := cs.foldl Nat.max 0
theorem maxL_snoc (cs : List Nat) (c : Nat) : maxL (cs ++ [c]) = max (maxL cs) c := by unfold maxL; rw [List.foldl_append]; rfl
theorem maxL_le {cs : List Nat} {m : Nat} (h : ∀ c ∈ cs, c ≤ m) : maxL cs ≤ m := by
  unfold maxL
  have : ∀ (l : List Nat) (a : Nat), a ≤ m → (∀ c ∈ l, c ≤ m) → l.foldl Nat.max a ≤ m := by
    intro l
    induction l with
    | nil => intro a ha _; exact ha
    | cons x l ih =>
      intro a ha hl
      have hx := hl x (List.mem_cons_self ..)
      exact ih _ (Nat.max_le.2 ⟨ha, hx⟩) (fun c hc => hl c (List.mem_cons_of_mem _ hc))
  exact this cs 0 (Nat.zero_le _) h
theorem Isl.small {nb : Nat → List Nat} {f : Nat → Bool} {N n : Nat} {S : List Bool} {cs : List Nat} (h : Isl nb f N n S cs) : ∀ c ∈ cs, c ≤ N := by
  induction h with
  | zero => intro c h; cases h
  | skip _ _ ih => exact ih
  | take h1 _ _ h4 h5 _ ih =>
    intro c hc
    rcases List.mem_append.1 hc with h | h
    · exact ih c h
    · have e := List.mem_singleton.1 h
      rw [e]
      have h9 := Nat.le_trans (Nat.le_of_eq h5) (cntT_le _)
      rw [h4.1, h1.len] at h9
      omega
theorem Isl.few {nb : Nat → List Nat} {f : Nat → Bool} {N n : Nat} {S : List Bool} {cs : List Nat} (h : Isl nb f N n S cs) : cs.length ≤ n := by
  induction h with
  | zero => exact Nat.le_refl _
  | skip _ _ ih => omega
  | take _ _ _ _ _ _ ih => rw [List.length_append]; simp; omega
/-- Both numbers. -/
def IsR (w : World) (W H : Nat) (f : Nat → Bool) (e : Ending) (w' : World) : Prop :=
  ∃ (S : List Bool) (cs : List Nat), Isl (nbL W H) f (W * H) (W * H) S cs ∧ e = .returned (.tuple #[.int .i64 cs.length, .int .i64 (maxL cs), .bool true]) ∧ Below w.heap.size w w'
set_option maxRecDepth 100000 in
set_option maxHeartbeats 4000000 in
theorem implIs_yes (W H : Nat) (A : Option Addr) (c : Nat) (xs : List Nat) (lev : Nat) (w : World) (hA : FRd w A xs) (hn : xs.length ≤ maxLen) (hs : shB W H xs = true) (hl : finB (cn .f32 lev) = true) :
    Calls Try.prog 24 #[shv W H A xs.length c, .float .f32 lev] w (IsR w W H (ovB (cl xs) (cn .f32 lev))) := by
  have hA1 := Rd.below hA (below_alloc _ (.cells #[.int .i64 W, .int .i64 H, .slice A xs.length c] 29))
  have hA1b := Rd.below hA1 (below_alloc _ (.cells #[.float .f32 lev] 26))
  have K0 : Below w.heap.size w ((w.alloc (.cells #[.int .i64 W, .int .i64 H, .slice A xs.length c] 29)).alloc (.cells #[.float .f32 lev] 26)) := Below.step (below_alloc _ _) (below_alloc _ _)
  obtain ⟨sw1, sw2, sh1, sh2, sl, sf⟩ := shB_all hs
  have hWn : 1 ≤ W ∧ W ≤ 17 := by omega
  have hHn : 1 ≤ H ∧ H ≤ 17 := by omega
  have hlen : xs.length = W * H := by have : ((xs.length : Nat) : Int) = ((W * H : Nat) : Int) := by rw [sl]; push_cast; rfl
                                      omega
  have hm : W * H ≤ 289 := Nat.le_trans (Nat.mul_le_mul hWn.2 hHn.2) (by decide)
  have HLEN := Lib.hid hlen
  clear hlen sl
  go_enter Try.func24, Try.ntmps24
  go_wp2_with fail
  refine (implValid_any W H A c xs _ hA1b hn).mono ?_
  rintro e w1 ⟨rfl, k1⟩
  rw [hs]
  have e1 : w.heap.size + 1 < w1.heap.size := by have := k1.size; simp at this; omega
  have e2 : w.heap.size < w1.heap.size := by omega
  have c0 : w1.cell? ⟨w.heap.size, 0, none⟩ = some (.int .i64 W) := (k1.cell (by simp <;> omega)).trans (by simp)
  have c1 : w1.cell? ⟨w.heap.size, 1, none⟩ = some (.int .i64 H) := (k1.cell (by simp <;> omega)).trans (by simp)
  have c2 : w1.cell? ⟨w.heap.size, 2, none⟩ = some (.slice A xs.length c) := (k1.cell (by simp <;> omega)).trans (by simp)
  have cl1 : w1.cell? ⟨w.heap.size + 1, 0, none⟩ = some (.float .f32 lev) := (k1.cell (by simp <;> omega)).trans (by simp)
  have hA2 := Rd.below hA1b k1
  have K1 := Below.step K0 k1
  clear k1 K0 hA1 hA1b
  go_wp2_with fail
  refine (isFinite_any _ _).mono ?_
  rintro e w2 ⟨rfl, n2, hw2⟩
  rw [hl]
  have e1 : w.heap.size + 1 < w2.heap.size := by rw [hw2]; exact e1
  have e2 : w.heap.size < w2.heap.size := by rw [hw2]; exact e2
  have c0 : w2.cell? ⟨w.heap.size, 0, none⟩ = some (.int .i64 W) := by rw [hw2]; exact c0
  have c1 : w2.cell? ⟨w.heap.size, 1, none⟩ = some (.int .i64 H) := by rw [hw2]; exact c1
  have c2 : w2.cell? ⟨w.heap.size, 2, none⟩ = some (.slice A xs.length c) := by rw [hw2]; exact c2
  have cl1 : w2.cell? ⟨w.heap.size + 1, 0, none⟩ = some (.float .f32 lev) := by rw [hw2]; exact cl1
  have hA3 : FRd w2 A xs := by rw [hw2]; exact hA2
  have K2 : Below w.heap.size w w2 := by rw [hw2]; exact below_drewN K1 _
  clear hw2 K1 hA2
  have G := grouped_any W H 53 #[.pointer (some ⟨w.heap.size, 0, none⟩), .pointer (some ⟨w.heap.size + 1, 0, none⟩)] (ovB (cl xs) (cn .f32 lev)) w2 hWn hHn
    (fun i wr hi k => isl1_any w.heap.size (w.heap.size + 1) i A c xs lev wr (Rd.below hA3 k) (by rw [HLEN.out]; exact hi) ((k.cell (p := ⟨w.heap.size, 2, none⟩) e2).trans c2) ((k.cell (p := ⟨w.heap.size + 1, 0, none⟩) e1).trans cl1))
    enter_isl1
  have G := Lib.hid G
  go_wp2_with fail
  refine G.out.mono ?_
  rintro e w3 ⟨A1, d1, A2, d2, S, cs, rfl, hI, oC, k3⟩
  have K3 := Below.step K2 k3
  have hI2 := Lib.hid hI
  have hcm := maxL_le hI.small
  have hsm : ∀ k, maxL (cs.take k) ≤ 289 := fun k => maxL_le (fun c hc => Nat.le_trans (hI.small c (List.mem_of_mem_take hc)) hm)
  have hcl : cs.length ≤ 289 := Nat.le_trans hI.few hm
  have HSM := Lib.hid hsm
  clear G hsm hI k3 K2 hA3 c0 c1 c2 cl1
  go_wp2_with fail
  have rC : Rd w3 A2 (cs.map iv) := oC.1
  go_loop [9, 31] (fun mv jw => ∃ k : Nat, k ≤ cs.length ∧ jw = .int .i64 k ∧ mv = .int .i64 (maxL (cs.take k))) (fun _ jw => cs.length - (intOf jw).toNat)
  case atStart => exact ⟨0, Nat.zero_le _, rfl, rfl⟩
  case round =>
    obtain ⟨k, hk, rfl, rfl⟩ := hrel
    by_cases hlt : k < cs.length
    · have hki : (k : Int) < cs.length := by omega
      obtain ⟨b, o, rfl, hb, hc'⟩ := rC k (iv cs[k]) (by simp [hlt])
      have hc : w3.cell? ⟨b, o + k, none⟩ = some (.int .i64 (cs[k] : Nat)) := hc'
      clear hc'
      have HT : Hid (maxL (cs.take (k + 1)) = max (maxL (cs.take k)) cs[k]) := Lib.hid (by rw [List.take_succ_eq_append_getElem hlt, maxL_snoc])
      generalize cs[k] = x at hc HT
      generalize maxL (cs.take k) = y at HT
      clear rC oC
      by_cases hxy : y < x
      · have hyx : (y : Int) < x := by omega
        have HM : Hid (max y x = x) := Lib.hid (by omega)
        go_wp2
        go_round
        case rel => exact ⟨k + 1, by omega, by go_num, by rw [HT.out, HM.out]⟩
        case measure => simp [intOf]; omega
      · have hyx : ¬ (y : Int) < x := by omega
        have HM : Hid (max y x = y) := Lib.hid (by omega)
        go_wp2
        go_round
        case rel => exact ⟨k + 1, by omega, by go_num, by rw [HT.out, HM.out]⟩
        case measure => simp [intOf]; omega
    · obtain rfl : k = cs.length := by omega
      go_wp2
      exact bodyPost_ret (v := .tuple #[.int .i64 cs.length, .int .i64 (maxL (cs.take cs.length)), .bool true]) (by simp [results, Try.results24, go_sem]) rfl ⟨S, cs, hI2.out, by rw [List.take_length], K3⟩
def NoneR (w : World) (e : Ending) (w' : World) : Prop := e = .returned (.tuple #[.int .i64 0, .int .i64 0, .bool false]) ∧ Below w.heap.size w w'
set_option maxRecDepth 100000 in
set_option maxHeartbeats 1000000 in
theorem implIs_no (sw sh : Int) (A : Option Addr) (c : Nat) (xs : List Nat) (lev : Nat) (w : World) (hA : FRd w A xs) (hn : xs.length ≤ maxLen) (ho : ctOk sw sh xs lev = false) :
    Calls Try.prog 24 #[shv sw sh A xs.length c, .float .f32 lev] w (NoneR w) := by
  have hA1 := Rd.below hA (below_alloc _ (.cells #[.int .i64 sw, .int .i64 sh, .slice A xs.length c] 29))
  have hA1b := Rd.below hA1 (below_alloc _ (.cells #[.float .f32 lev] 26))
  have K0 : Below w.heap.size w ((w.alloc (.cells #[.int .i64 sw, .int .i64 sh, .slice A xs.length c] 29)).alloc (.cells #[.float .f32 lev] 26)) := Below.step (below_alloc _ _) (below_alloc _ _)
  cases hs : shB sw sh xs
  · clear ho
    go_enter Try.func24, Try.ntmps24
    go_wp2_with fail
    refine (implValid_any sw sh A c xs _ hA1b hn).mono ?_
    rintro e w1 ⟨rfl, k1⟩
    rw [hs]
    have K1 := Below.step K0 k1
    clear k1
    go_wp2
    exact bodyPost_ret (v := .tuple #[.int .i64 0, .int .i64 0, .bool false]) (by simp [results, Try.results24, go_sem]) rfl ⟨rfl, K1⟩
  · have hl : finB (cn .f32 lev) = false := by unfold ctOk at ho; rw [hs, Bool.true_and] at ho; exact ho
    clear ho
    go_enter Try.func24, Try.ntmps24
    go_wp2_with fail
    refine (implValid_any sw sh A c xs _ hA1b hn).mono ?_
    rintro e w1 ⟨rfl, k1⟩
    rw [hs]
    have cl1 : w1.cell? ⟨w.heap.size + 1, 0, none⟩ = some (.float .f32 lev) := (k1.cell (by simp <;> omega)).trans (by simp)
    have K1 := Below.step K0 k1
    clear k1
    go_wp2_with fail
    refine (isFinite_any _ _).mono ?_
    rintro e w2 ⟨rfl, n2, rfl⟩
    rw [hl]
    go_wp2
    exact bodyPost_ret (v := .tuple #[.int .i64 0, .int .i64 0, .bool false]) (by simp [results, Try.results24, go_sem]) rfl ⟨rfl, below_drewN K1 _⟩
end Go.Proofs.Ytcdipgkdbannmaa
