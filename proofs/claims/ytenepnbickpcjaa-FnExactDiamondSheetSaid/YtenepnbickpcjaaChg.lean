/- A sheet changed height by height: the program's loop. -/
import Derived.Test.YtenepnbickpcjaaOwn
namespace Go.Proofs.Ytenepnbickpcjaa
open Go.RowKit

/-- A sheet is one: told of numbers with all NaNs made one. -/
def shC (sw sh : Int) (l : List Nat) : Bool := (decide (1 ≤ sw) && decide (sw ≤ 17)) && (decide (1 ≤ sh) && decide (sh ≤ 17)) && decide ((l.length : Int) = sw * sh) && l.all finB
theorem shC_cl (sw sh : Int) (xs : List Nat) : shB sw sh xs = shC sw sh (cl xs) := by
  have : finL xs = (cl xs).all finB := by
    unfold finL cl
    rw [List.all_map]
    rfl
  unfold shB shC
  rw [this, cl_len]
/-- What is given of a sheet that may be none. -/
def GiveR (w : World) (sw sh : Int) (l : List Nat) : Ending → World → Prop := SheetR w (if shC sw sh l then sw else 0) (if shC sw sh l then sh else 0) (if shC sw sh l then l else []) (shC sw sh l)
theorem give_yes {w w' : World} {sw sh : Int} {B : Option Addr} {c : Nat} {xs : List Nat} (h : shB sw sh xs = true) (ho : OwnS w.heap.size w' B (xs.map fv)) (k : Below w.heap.size w w') : GiveR w sw sh (cl xs) (.returned (.tuple #[shv sw sh B xs.length c, .bool true])) w' := by
  unfold GiveR
  rw [← shC_cl, h]
  exact ⟨B, c, xs, rfl, rfl, ho, k⟩
theorem give_no {w w' : World} {sw sh : Int} {l : List Nat} (h : shC sw sh l = false) (k : Below w.heap.size w w') : GiveR w sw sh l (.returned (.tuple #[shv 0 0 none 0 0, .bool false])) w' := by
  unfold GiveR
  rw [h]
  exact sheetR_none k
/-- What the loop holds: the sheet's box at g, its heights of the call's own. -/
def Chg (base g : Nat) (W H : Int) (k : Nat) (P : List Nat) (w : World) : Prop :=
  ∃ v xs, w.cell? ⟨g, 0, none⟩ = some (.int .i64 W) ∧ w.cell? ⟨g, 1, none⟩ = some (.int .i64 H) ∧ w.cell? ⟨g, 2, none⟩ = some v ∧ w.frozen? ⟨g, 2, none⟩ = false ∧ w.ownsRow base 22 1 v k (xs.map fv) ∧ xs.length = k ∧ cl xs = P ∧ ∀ b, v.ownBlock = some b → base ≤ b
theorem news_one (w : World) (u : Value) (tu : TypeId) : ∀ j y, ([u] : List Value)[j]? = some y → (w.alloc (.cells #[u] tu)).cell? ((⟨w.heap.size, 0, none⟩ : Addr).add j) = some y := by
  intro j y hj
  match j, hj with
  | 0, hj =>
    obtain rfl : u = y := by simpa using hj
    unfold World.cell?
    rw [Addr.add_zero', heap_alloc_new]
    rfl
  | j + 1, hj => simp at hj
theorem chg_next {w : World} {base g n c k x : Nat} {W H : Int} {xs : List Nat} {v : Value} {g2 : Nat} (h0 : w.cell? ⟨g, 0, none⟩ = some (.int .i64 W)) (h1 : w.cell? ⟨g, 1, none⟩ = some (.int .i64 H)) (h2 : w.cell? ⟨g, 2, none⟩ = some v) (hf : w.frozen? ⟨g, 2, none⟩ = false)
    (hb : g < base) (ho : w.ownsRow base 22 1 (.slice (some ⟨g2, 0, none⟩) n c) (k + 1) (xs.map fv ++ [fv x])) (hl : xs.length = k) : Chg base g W H (k + 1) (cl xs ++ [cn .f32 x]) (w.setCell ⟨g, 2, none⟩ (.slice (some ⟨g2, 0, none⟩) n c)) := by
  have hne : ∀ i, i ≠ 2 → (⟨g, i, none⟩ : Addr) ≠ ⟨g, 2, none⟩ := fun i hi e => by injection e with _ e2; omega
  have hlt := ho.lt g2 rfl
  refine ⟨_, xs ++ [x], (World.cell?_setCell_other _ _ _ _ (by first | exact hne 0 (by decide) | exact (hne 0 (by decide)).symm)).trans h0, (World.cell?_setCell_other _ _ _ _ (by first | exact hne 1 (by decide) | exact (hne 1 (by decide)).symm)).trans h1, World.cell?_setCell_same _ _ _ h2, by simpa using hf, ?_, by simp [hl], by unfold cl; rw [List.map_append]; rfl, fun b h => by have := ho.lt b h; omega⟩
  rw [List.map_append]
  exact own_keep ho ((Keep.refl (fun k => k = g) w).setCell (.inl rfl) _) (fun b h e => by have := ho.lt b h; omega)
set_option maxRecDepth 100000 in
set_option maxHeartbeats 4000000 in
theorem changed_any (W H : Int) (A : Option Addr) (n c : Nat) (K : FuncId) (cap : Array Value) (f : Nat → Nat) (w : World) (hn : n ≤ 289)
    (hstep : ∀ i wr, i < n → Below w.heap.size w wr → Calls Try.prog K (#[.int .i64 (i : Nat)] ++ cap) wr fun e w' => ∃ x m, e = .returned (.float .f32 x) ∧ cn .f32 x = f i ∧ w' = wr.drewN m)
    (hen : ∀ args w, (callFunc K args).run Try.prog w = .ok (.enter K args) w) :
    Calls Try.prog 67 #[shv W H A n c, .func (.func K) #[] cap] w (GiveR w W H ((List.range n).map f)) := by
  obtain ⟨i0, hi, hz0, hz1, hz2⟩ := info_parts info.f32
  obtain ⟨w0, hw0⟩ : ∃ w0, w0 = ((w.alloc (.cells #[.int .i64 W, .int .i64 H, .slice A n c] 33)).alloc (.cells #[.int .i64 0, .int .i64 0, .slice none 0 0] 33)).alloc (.cells #[.int .i64 W, .int .i64 H, .slice none 0 0] 33) := ⟨_, rfl⟩
  have z0 : w0.heap.size = w.heap.size + 3 := by rw [hw0]; simp
  have k0 : Below w.heap.size w w0 := by rw [hw0]; exact Below.step (Below.step (below_alloc _ _) (below_alloc _ _)) (below_alloc _ _)
  have o0 : Chg w0.heap.size (w.heap.size + 2) W H 0 [] w0 := by
    have zz : ((w.alloc (.cells #[.int .i64 W, .int .i64 H, .slice A n c] 33)).alloc (.cells #[.int .i64 0, .int .i64 0, .slice none 0 0] 33)).heap.size = w.heap.size + 2 := by simp
    refine ⟨.slice none 0 0, [], ?_, ?_, ?_, ?_, World.ownsRow_nil .., rfl, rfl, fun b h => by cases h⟩ <;> (rw [hw0, ← zz]; generalize ((w.alloc (.cells #[.int .i64 W, .int .i64 H, .slice A n c] 33)).alloc (.cells #[.int .i64 0, .int .i64 0, .slice none 0 0] 33)) = wa; simp)
  obtain ⟨b0, b1, b2, q0, q1, q2⟩ : w0.cell? ⟨w.heap.size + 1, 0, none⟩ = some (.int .i64 0) ∧ w0.cell? ⟨w.heap.size + 1, 1, none⟩ = some (.int .i64 0) ∧ w0.cell? ⟨w.heap.size + 1, 2, none⟩ = some (.slice none 0 0) ∧ w0.frozen? ⟨w.heap.size + 1, 0, none⟩ = false ∧ w0.frozen? ⟨w.heap.size + 1, 1, none⟩ = false ∧ w0.frozen? ⟨w.heap.size + 1, 2, none⟩ = false := by
    have zz : (w.alloc (.cells #[.int .i64 W, .int .i64 H, .slice A n c] 33)).heap.size = w.heap.size + 1 := by simp
    rw [hw0, ← zz]
    generalize (w.alloc (.cells #[.int .i64 W, .int .i64 H, .slice A n c] 33)) = wa
    have kb := below_alloc (wa.alloc (.cells #[.int .i64 0, .int .i64 0, .slice none 0 0] 33)) (.cells #[.int .i64 W, .int .i64 H, .slice none 0 0] 33)
    refine ⟨(kb.cell (by simp)).trans (by simp), (kb.cell (by simp)).trans (by simp), (kb.cell (by simp)).trans (by simp), (kb.frozen (by simp)).trans (by simp), (kb.frozen (by simp)).trans (by simp), (kb.frozen (by simp)).trans (by simp)⟩
  go_enter Try.func67, Try.ntmps67
  go_wp2_with fail
  rw [← hw0]
  clear hw0
  go_loopw [16] (fun iv wr => ∃ k P, k ≤ n ∧ iv = .int .i64 k ∧ Chg w0.heap.size (w.heap.size + 2) W H k P wr ∧ Below (w.heap.size + 2) w0 wr ∧ Hid (P = (List.range k).map f)) (fun iv _ => n - (intOf iv).toNat)
  case atStart => exact ⟨0, [], Nat.zero_le _, rfl, o0, Below.refl _ _, Lib.hid rfl⟩
  case round =>
    clear o0
    obtain ⟨k, P, hk, rfl, hC, hbe, HP⟩ := hrel
    have hbel : Below w.heap.size w wr := k0.trans (hbe.mono (by omega))
    by_cases hlt : k < n
    · obtain ⟨v, xs, d0, d1, d2, f2, hown, hlen, hcl, hblk⟩ := hC
      obtain ⟨Av, cv', rfl⟩ := own_slice hown
      have hki : (k : Int) < n := by omega
      have hg0 : w.heap.size + 2 < wr.heap.size := World.block_lt_of_cell? _ _ d0
      have hgn : ∀ b, Value.ownBlock (.slice Av k cv') = some b → b ≠ w.heap.size + 2 := fun b h => by have := hblk b h; omega
      have hs := fun wq hq => hstep k wq hlt hq
      have HO := Lib.hid hown
      have HF := Lib.hid hcl
      have hbz := hbe.size
      have hbase : w0.heap.size ≤ wr.heap.size := by omega
      clear hown hcl
      go_wp2_with fail
      go_region_law (first
        | (refine step_append_lies _ rfl _ _ 28 rfl w0.heap.size 22 i0 (.float .f32 0) 1 4 Try.underlying28 hi hz0 hz1 hz2 rfl (by decide) (.slice Av k cv') k (xs.map fv) (by simp [Act.eval]) (by exact HO5.out.alloc _) ⟨w5.heap.size, 0, none⟩ 1 1 [fv x] (by simp [Act.eval]) rfl (by exact news_one w5 _ _) (by intro u hu; simp at hu; subst hu; rfl) (by decide) (by unfold maxLen; omega) (by omega) (by exact Nat.le_trans hb5 (size_alloc_lt _ _)) _ rfl ?_; intro g2 cap2 w6 hown6 hg6 hpl6 hlt6; have kg := hg6.block (w.heap.size + 2) (by simp; omega) (by intro h; exact hgn _ h.symm rfl); have E0 : w6.cell? ⟨w.heap.size + 2, 0, none⟩ = some (.int .i64 W) := (World.cell?_of_block kg).trans ((Below.cell (below_alloc _ _) g5).trans D0); have E1 : w6.cell? ⟨w.heap.size + 2, 1, none⟩ = some (.int .i64 H) := (World.cell?_of_block kg).trans ((Below.cell (below_alloc _ _) g5).trans D1); have E2 : w6.cell? ⟨w.heap.size + 2, 2, none⟩ = some (.slice Av k cv') := (World.cell?_of_block kg).trans ((Below.cell (below_alloc _ _) g5).trans D2); have E3 : w6.frozen? ⟨w.heap.size + 2, 2, none⟩ = false := (World.frozen?_of_block kg).trans (((cells_below (below_alloc _ _)).2 _ _ g5).trans F2))
        | (go_simp; refine (hs _ (by first | exact hbel.drew | exact hbel | exact below_drewN hbel _)).mono ?_; rintro e w5 ⟨x, m, rfl, hx, hw5⟩; have HO5 : Hid (w5.ownsRow w0.heap.size 22 1 (.slice Av k cv') k (xs.map fv)) := Lib.hid (by rw [hw5]; exact HO.out); have hb5 : w0.heap.size ≤ w5.heap.size := (by rw [hw5]; exact hbase); have g5 : w.heap.size + 2 < w5.heap.size := (by rw [hw5]; exact hg0); have D0 : w5.cell? ⟨w.heap.size + 2, 0, none⟩ = some (.int .i64 W) := (by rw [hw5]; exact d0); have D1 : w5.cell? ⟨w.heap.size + 2, 1, none⟩ = some (.int .i64 H) := (by rw [hw5]; exact d1); have D2 : w5.cell? ⟨w.heap.size + 2, 2, none⟩ = some (.slice Av k cv') := (by rw [hw5]; exact d2); have F2 : w5.frozen? ⟨w.heap.size + 2, 2, none⟩ = false := (by rw [hw5]; exact f2); have K5 : Below (w.heap.size + 2) w0 w5 := (by rw [hw5]; first | exact below_drewN hbe.drew _ | exact below_drewN hbe _); clear hw5))
      all_goals
        have hN : Chg w0.heap.size (w.heap.size + 2) W H (k + 1) (P ++ [f k]) (w6.setCell ⟨w.heap.size + 2, 2, none⟩ (.slice (some ⟨g2, 0, none⟩) (k + 1) cap2)) := by
          rw [← hx, ← HF.out]
          exact chg_next E0 E1 E2 E3 (by omega) hown6 hlen
        have KN : Below (w.heap.size + 2) w0 (w6.setCell ⟨w.heap.size + 2, 2, none⟩ (.slice (some ⟨g2, 0, none⟩) (k + 1) cap2)) := by
          refine Below.setCell ((K5.trans ((below_alloc _ _).mono (by omega))).grown hg6 (Nat.le_trans (by omega) (size_alloc_lt _ _)) ?_) (by show w.heap.size + 2 ≤ w.heap.size + 2; omega) _
          intro b hb
          have := hblk b hb
          omega
        have HP2 : Hid (P ++ [f k] = (List.range (k + 1)).map f) := Lib.hid (by rw [HP.out, List.range_succ, List.map_append]; rfl)
        clear E0 E1 E2 E3 D0 D1 D2 F2 d0 d1 d2 f2 hown6 hg6 hpl6 HO5 K5 kg hx
        go_wp2
        go_roundw
        case rel => exact ⟨k + 1, _, by omega, by go_num, hN, KN, HP2⟩
        case measure => simp [intOf]; omega
    · obtain rfl : k = n := by omega
      obtain ⟨v, xs, d0, d1, d2, f2, hown, hlen, hcl, hblk⟩ := hC
      obtain ⟨Av, cv', rfl⟩ := own_slice hown
      subst hlen
      have hR : FRd wr Av xs := Rd.of_own hown
      have oS : OwnS w0.heap.size wr Av (xs.map fv) := OwnS.of_own hown
      have HL : Hid (cl xs = (List.range xs.length).map f) := Lib.hid (by rw [hcl, HP.out])
      have hbz := hbe.size
      have d0 := (hbe.cell (p := ⟨w.heap.size + 1, 0, none⟩) (by show w.heap.size + 1 < w.heap.size + 2; omega)).trans b0
      have d1 := (hbe.cell (p := ⟨w.heap.size + 1, 1, none⟩) (by show w.heap.size + 1 < w.heap.size + 2; omega)).trans b1
      have d2 := (hbe.cell (p := ⟨w.heap.size + 1, 2, none⟩) (by show w.heap.size + 1 < w.heap.size + 2; omega)).trans b2
      have f0 := (hbe.frozen (p := ⟨w.heap.size + 1, 0, none⟩) (by show w.heap.size + 1 < w.heap.size + 2; omega)).trans q0
      have f1 := (hbe.frozen (p := ⟨w.heap.size + 1, 1, none⟩) (by show w.heap.size + 1 < w.heap.size + 2; omega)).trans q1
      have f2 := (hbe.frozen (p := ⟨w.heap.size + 1, 2, none⟩) (by show w.heap.size + 1 < w.heap.size + 2; omega)).trans q2
      have zr : w.heap.size + 1 < wr.heap.size := by omega
      clear hbe hown hcl hblk b0 b1 b2 q0 q1 q2
      go_wp2_with fail
      refine (ifSheet_any W H Av cv' xs wr hR (by unfold maxLen; omega)).mono ?_
      rintro e w3 ⟨rfl, k3⟩
      have d0 := (k3.cell (p := ⟨w.heap.size + 1, 0, none⟩) zr).trans d0
      have d1 := (k3.cell (p := ⟨w.heap.size + 1, 1, none⟩) zr).trans d1
      have d2 := (k3.cell (p := ⟨w.heap.size + 1, 2, none⟩) zr).trans d2
      have f0 := (k3.frozen (p := ⟨w.heap.size + 1, 0, none⟩) zr).trans f0
      have f1 := (k3.frozen (p := ⟨w.heap.size + 1, 1, none⟩) zr).trans f1
      have f2 := (k3.frozen (p := ⟨w.heap.size + 1, 2, none⟩) zr).trans f2
      have O3 := Lib.hid (oS.below k3)
      have KK := Lib.hid (Below.step hbel k3)
      have z3 : w.heap.size + 1 < w3.heap.size := Nat.lt_of_lt_of_le zr k3.size
      clear k3 oS hbel hR
      cases hs : shB W H xs
      · have HS : Hid (shC W H ((List.range xs.length).map f) = false) := Lib.hid (by rw [← HL.out, ← shC_cl]; exact hs)
        clear hs
        go_wp2
        refine bodyPost_ret (v := .tuple #[shv 0 0 none 0 0, .bool false]) (by simp [results, Try.results67, go_sem, d0, d1, d2]) rfl ?_
        exact give_no HS.out (below_put3 KK.out (by omega))
      · have HS := Lib.hid hs
        clear hs
        go_wp2
        refine bodyPost_ret (v := .tuple #[shv W H Av xs.length cv', .bool true]) (by simp [results, Try.results67, go_sem, d0, d1, d2]) rfl ?_
        rw [← HL.out]
        exact give_yes HS.out ((own_put3 O3.out (by omega) _ _ _).less (by omega)) (below_put3 KK.out (by omega))
end Go.Proofs.Ytenepnbickpcjaa
