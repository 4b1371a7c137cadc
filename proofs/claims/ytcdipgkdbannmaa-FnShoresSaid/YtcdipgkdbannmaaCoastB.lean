/- contour and CoastOf, both sides at every input. -/
import Derived.Test.YtcdipgkdbannmaaCoastS
namespace Go.Proofs.Ytcdipgkdbannmaa
open Go.RowKit

def ctOk (sw sh : Int) (xs : List Nat) (lev : Nat) : Bool := shB sw sh xs && finB (cn .f32 lev)
def ctL (sw sh : Int) (xs : List Nat) (lev : Nat) : List (Nat × Nat) := if ctOk sw sh xs lev then coL (cl xs) sw.toNat (cn .f32 lev) (visR sw.toNat 1 (sh.toNat * sw.toNat)) (visC sw.toNat sh.toNat 1 (sh.toNat * sw.toNat)) else []
theorem ct_nat {sw sh : Int} {xs : List Nat} {lev : Nat} (hs : shB sw sh xs = true) (hl : finB (cn .f32 lev) = true) : ∃ W H : Nat, sw = W ∧ sh = H ∧ ctOk sw sh xs lev = true ∧ ctL sw sh xs lev = coL (cl xs) W (cn .f32 lev) (visR W 1 (H * W)) (visC W H 1 (H * W)) := by
  obtain ⟨a, b, c, d, _, _⟩ := shB_all hs
  have ho : ctOk sw sh xs lev = true := by unfold ctOk; rw [hs, hl]; rfl
  exact ⟨sw.toNat, sh.toNat, by omega, by omega, ho, by unfold ctL; rw [ho]; rfl⟩
/-- A list of complex numbers in new memory, and a yes or no. -/
def CListB (w : World) (l : List (Nat × Nat)) (ok : Bool) (e : Ending) (w' : World) : Prop :=
  ∃ A' c' P, e = .returned (.tuple #[.slice A' P.length c', .bool ok]) ∧ OwnS w.heap.size w' A' (P.map cv) ∧ cp P = l ∧ Below w.heap.size w w'
theorem CListB.no {w w' : World} {l : List (Nat × Nat)} {ok : Bool} (h1 : ok = false) (h2 : l = []) (k : Below w.heap.size w w') : CListB w l ok (.returned (.tuple #[.slice none 0 0, .bool false])) w' := by
  subst h1; subst h2
  exact ⟨none, 0, [], rfl, OwnS.nil _, rfl, k⟩
theorem ct_bad {sw sh : Int} {xs : List Nat} {lev : Nat} (h : ctOk sw sh xs lev = false) : ctL sw sh xs lev = [] := by unfold ctL; rw [h]; rfl
theorem ct_sheet {sw sh : Int} {xs : List Nat} {lev : Nat} (h : shB sw sh xs = false) : ctOk sw sh xs lev = false := by unfold ctOk; rw [h]; rfl
theorem ct_lev {sw sh : Int} {xs : List Nat} {lev : Nat} (h : finB (cn .f32 lev) = false) : ctOk sw sh xs lev = false := by unfold ctOk; rw [h, Bool.and_false]
set_option maxRecDepth 100000 in
set_option maxHeartbeats 1000000 in
theorem implCon_any (sw sh : Int) (A : Option Addr) (c : Nat) (xs : List Nat) (lev : Nat) (w : World) (hA : FRd w A xs) (hn : xs.length ≤ maxLen) :
    Calls Try.prog 44 #[shv sw sh A xs.length c, .float .f32 lev] w (CListB w (ctL sw sh xs lev) (ctOk sw sh xs lev)) := by
  have hA1 := Rd.below hA (below_alloc _ (.cells #[.int .i64 sw, .int .i64 sh, .slice A xs.length c] 29))
  have hA1b := Rd.below hA1 (below_alloc _ (.cells #[.float .f32 lev] 26))
  have K0 : Below w.heap.size w ((w.alloc (.cells #[.int .i64 sw, .int .i64 sh, .slice A xs.length c] 29)).alloc (.cells #[.float .f32 lev] 26)) := Below.step (below_alloc _ _) (below_alloc _ _)
  cases hs : shB sw sh xs
  · have B := Lib.hid (ct_sheet (lev := lev) hs)
    go_enter Try.func44, Try.ntmps44
    go_wp2_with fail
    refine (implValid_any sw sh A c xs _ hA1b hn).mono ?_
    rintro e w1 ⟨rfl, k1⟩
    rw [hs]
    have K1 := Below.step K0 k1
    clear k1
    go_wp2
    go_ret2
    exact CListB.no B.out (ct_bad B.out) K1
  · cases hl : finB (cn .f32 lev)
    · have B := Lib.hid (ct_lev (sw := sw) (sh := sh) (xs := xs) hl)
      go_enter Try.func44, Try.ntmps44
      go_wp2_with fail
      refine (implValid_any sw sh A c xs _ hA1b hn).mono ?_
      rintro e w1 ⟨rfl, k1⟩
      rw [hs]
      have cl1 : w1.cell? ⟨w.heap.size + 1, 0, none⟩ = some (.float .f32 lev) := (k1.cell (by simp <;> omega)).trans (by simp)
      have K1 := Below.step K0 k1
      clear k1
      go_wp2_with fail
      refine (isFinite_any _ _).mono ?_
      rintro e w2 ⟨rfl, n2, rfl⟩
      rw [hl]
      go_wp2
      go_ret2
      exact CListB.no B.out (ct_bad B.out) (below_drewN K1 _)
    · obtain ⟨W, H, rfl, rfl, ho, hL⟩ := ct_nat hs hl
      rw [ho, hL]
      refine (implCo_any W H A c xs lev w hA hn hs hl).mono ?_
      rintro e w' ⟨A', c', P, rfl, ho', hc, hb⟩
      exact ⟨A', c', P, rfl, ho', hc, hb⟩
theorem ret_ib {a b : Nat} {x y : Bool} (h : a = b) (h2 : x = y) : Ending.returned (.tuple #[.int .i64 a, .bool x]) = .returned (.tuple #[.int .i64 b, .bool y]) := by rw [h, h2]
/-- A count and a yes or no. -/
def IntB (w : World) (n : Nat) (ok : Bool) (e : Ending) (w' : World) : Prop := e = .returned (.tuple #[.int .i64 n, .bool ok]) ∧ Below w.heap.size w w'
theorem implCoast_any (sw sh : Int) (A : Option Addr) (c : Nat) (xs : List Nat) (lev : Nat) (w : World) (hA : FRd w A xs) (hn : xs.length ≤ maxLen) :
    Calls Try.prog 16 #[shv sw sh A xs.length c, .float .f32 lev] w (IntB w (ctL sw sh xs lev).length (ctOk sw sh xs lev)) := by
  have hA1 := Rd.below hA (below_alloc _ (.cells #[.int .i64 sw, .int .i64 sh, .slice A xs.length c] 29))
  go_enter Try.func16, Try.ntmps16
  go_wp2_with fail
  refine (implCon_any sw sh A c xs lev _ (by first | exact hA1 | exact hA) hn).mono ?_
  rintro e w1 ⟨A', c', P, rfl, ho, hc, hb⟩
  have HC := Lib.hid hc
  have hb' := Below.step (below_alloc _ _) hb
  clear hc hb
  go_wp2
  go_ret2
  exact ⟨ret_ib (by rw [← HC.out, cp_len]) rfl, hb'⟩
set_option maxRecDepth 100000 in
set_option maxHeartbeats 1000000 in
theorem specCoast_any (sw sh : Int) (A : Option Addr) (c : Nat) (xs : List Nat) (lev : Nat) (w : World) (hA : FRd w A xs) (hn : xs.length ≤ maxLen) :
    Calls Try.prog 15 #[shv sw sh A xs.length c, .float .f32 lev] w (IntB w (ctL sw sh xs lev).length (ctOk sw sh xs lev)) := by
  have hA1 := Rd.below hA (below_alloc _ (.cells #[.int .i64 sw, .int .i64 sh, .slice A xs.length c] 29))
  cases hs : shB sw sh xs
  · have B := Lib.hid (ct_sheet (lev := lev) hs)
    go_enter Try.func15, Try.ntmps15
    go_wp2_with fail
    refine (l05Is_any _ sw sh A c xs _ hA1 hn (by simp) (by simp) (by simp)).mono ?_
    rintro e w1 ⟨rfl, n, rfl⟩
    rw [hs]
    go_wp2
    go_ret2
    exact ⟨ret_ib (a := 0) (by rw [ct_bad B.out]; rfl) B.out.symm, below_drewN (below_alloc _ _) _⟩
  · cases hl : finB (cn .f32 lev)
    · have B := Lib.hid (ct_lev (sw := sw) (sh := sh) (xs := xs) hl)
      go_enter Try.func15, Try.ntmps15
      go_wp2_with fail
      refine (l05Is_any _ sw sh A c xs _ hA1 hn (by simp) (by simp) (by simp)).mono ?_
      rintro e w1 ⟨rfl, n, rfl⟩
      rw [hs]
      go_wp2_with fail
      refine (l01Finite_any _ _).mono ?_
      rintro e w2 ⟨rfl, n2, rfl⟩
      rw [hl]
      go_wp2
      go_ret2
      exact ⟨ret_ib (a := 0) (by rw [ct_bad B.out]; rfl) B.out.symm, below_drewN (below_alloc _ _) _⟩
    · obtain ⟨W, H, rfl, rfl, ho, hL⟩ := ct_nat hs hl
      rw [ho, hL]
      go_enter Try.func15, Try.ntmps15
      go_wp2_with fail
      refine (l05Is_any _ W H A c xs _ hA1 hn (by simp) (by simp) (by simp)).mono ?_
      rintro e w1 ⟨rfl, n, rfl⟩
      rw [hs]
      go_wp2_with fail
      refine (l01Finite_any _ _).mono ?_
      rintro e w2 ⟨rfl, n2, rfl⟩
      rw [hl]
      go_wp2_with fail
      have d0 : (w.alloc (.cells #[.int .i64 W, .int .i64 H, .slice A xs.length c] 29)).cell? ⟨w.heap.size, 0, none⟩ = some (.int .i64 W) := by simp
      have d1 : (w.alloc (.cells #[.int .i64 W, .int .i64 H, .slice A xs.length c] 29)).cell? ⟨w.heap.size, 1, none⟩ = some (.int .i64 H) := by simp
      have d2 : (w.alloc (.cells #[.int .i64 W, .int .i64 H, .slice A xs.length c] 29)).cell? ⟨w.heap.size, 2, none⟩ = some (.slice A xs.length c) := by simp
      refine (l05Contour_any W H A c xs lev w.heap.size _ (Rd.drewN hA1 _) hs d0 d1 d2).mono ?_
      rintro e w3 ⟨A', c', P, rfl, ho', hc, hb⟩
      have HC := Lib.hid hc
      have hb' : Below w.heap.size w w3 := Below.step (w1 := (w.alloc (.cells #[.int .i64 W, .int .i64 H, .slice A xs.length c] 29))) (below_alloc _ _) (Below.step (below_drewN (Below.refl _ _) _) hb)
      clear hc hb
      go_wp2
      go_ret2
      exact ⟨ret_ib (by rw [← HC.out, cp_len]) rfl, hb'⟩
end Go.Proofs.Ytcdipgkdbannmaa
