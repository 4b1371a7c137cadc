/- The source of choices: what it gives lies within bounds; only its own block turns. -/
import Derived.Test.YtamgekijihpgkaaFin
import Derived.Test.YtamgekijihpgkaaMb
import Derived.BigQuiet
import Derived.BigGuardPart
namespace Go.Proofs.Ytamgekijihpgkaa
open Go.RowKit

/-- Bytes that came in. -/
def BRd (w : World) (A : Option Addr) (L : Nat) : Prop := ∀ i, i < L → ∃ b o x, A = some ⟨b, o, none⟩ ∧ b < w.heap.size ∧ x ≤ 255 ∧ w.cell? ⟨b, o + i, none⟩ = some (.int .u8 (x : Nat))
theorem BRd.keep {S : Nat → Prop} {w w' : World} {A : Option Addr} {L : Nat} (h : BRd w A L) (k : Keep S w w') (hs : ∀ b o, 0 < L → A = some ⟨b, o, none⟩ → ¬ S b) : BRd w' A L := fun i hi => by
  obtain ⟨b, o, x, e, hb, hx, hc⟩ := h i hi
  exact ⟨b, o, x, e, Nat.lt_of_lt_of_le hb k.size, hx, (World.cell?_of_block (w := w) (k.block b hb (hs b o (by omega) e))).trans hc⟩
theorem BRd.lt {w : World} {A : Option Addr} {L b o : Nat} (h : BRd w A L) (hl : 0 < L) (e : A = some ⟨b, o, none⟩) : b < w.heap.size := by
  obtain ⟨b', o', x, e', hb, _⟩ := h 0 hl
  rw [e] at e'
  injection e' with e'
  injection e' with e1 _
  omega
theorem BRd.below {w w' : World} {A : Option Addr} {L : Nat} (h : BRd w A L) (k : Below w.heap.size w w') : BRd w' A L := h.keep (Keep.of_below (S := fun _ => False) k) (fun _ _ _ _ => id)
/-- A source in its block. -/
structure Src (w : World) (p : Nat) (A : Option Addr) (L c k : Nat) : Prop where
  lt : p < w.heap.size
  c0 : w.cell? ⟨p, 0, none⟩ = some (.slice A L c)
  c1 : w.cell? ⟨p, 1, none⟩ = some (.int .i64 (k : Nat))
  c2 : ∃ z : Nat, z < 18446744073709551616 ∧ w.cell? ⟨p, 2, none⟩ = some (.int .u64 (z : Nat))
  f1 : w.frozen? ⟨p, 1, none⟩ = false
  f2 : w.frozen? ⟨p, 2, none⟩ = false
  ne : ∀ b o, 0 < L → A = some ⟨b, o, none⟩ → b ≠ p
theorem u64_in (a : Int) : ∃ z : Nat, z < 18446744073709551616 ∧ IntKind.u64.wrap a = (z : Int) := by
  have h : IntKind.u64.wrap a = a % 18446744073709551616 := by rfl
  refine ⟨(a % 18446744073709551616).toNat, by omega, by rw [h]; omega⟩
theorem keep_drewN (S : Nat → Prop) (w : World) (n : Nat) : Keep S w (w.drewN n) := ⟨rfl, rfl, rfl, Nat.le_refl _, fun _ _ _ => rfl⟩
theorem Src.put {w : World} {p : Nat} {A : Option Addr} {L c k : Nat} (h : Src w p A L c k) (n : Nat) (a : Int) :
    Src (((w.drewN n).setCell ⟨p, 1, none⟩ (.int .i64 ((k : Int) + 1))).setCell ⟨p, 2, none⟩ (.int .u64 (IntKind.u64.wrap a))) p A L c (k + 1) ∧ Keep (· = p) w (((w.drewN n).setCell ⟨p, 1, none⟩ (.int .i64 ((k : Int) + 1))).setCell ⟨p, 2, none⟩ (.int .u64 (IntKind.u64.wrap a))) := by
  obtain ⟨hlt, c0, c1, ⟨z, hz, c2⟩, f1, f2, hne⟩ := h
  obtain ⟨z', hz', e⟩ := u64_in a
  rw [e]
  have c0' : (w.drewN n).cell? ⟨p, 0, none⟩ = some (.slice A L c) := c0
  have c1' : (w.drewN n).cell? ⟨p, 1, none⟩ = some (.int .i64 (k : Nat)) := c1
  have c2' : (w.drewN n).cell? ⟨p, 2, none⟩ = some (.int .u64 (z : Nat)) := c2
  have f1' : (w.drewN n).frozen? ⟨p, 1, none⟩ = false := f1
  have f2' : (w.drewN n).frozen? ⟨p, 2, none⟩ = false := f2
  have hlt' : p < (w.drewN n).heap.size := hlt
  refine ⟨⟨by simpa [World.setCell] using hlt', ?_, ?_, ⟨z', hz', ?_⟩, by simpa using f1', by simpa using f2', hne⟩, ((keep_drewN (· = p) w n).setCell (p := ⟨p, 1, none⟩) (.inl rfl) _).setCell (p := ⟨p, 2, none⟩) (.inl rfl) _⟩
  · rw [World.cell?_setCell_other _ _ _ _ (by simp), World.cell?_setCell_other _ _ _ _ (by simp)]; exact c0'
  · rw [World.cell?_setCell_other _ _ _ _ (by simp)]; exact (World.cell?_setCell_same _ _ _ c1').trans (by simp)
  · exact World.cell?_setCell_same _ _ _ ((World.cell?_setCell_other _ _ _ _ (by simp)).trans c2')
theorem Src.drewN {w : World} {p : Nat} {A : Option Addr} {L c k : Nat} (h : Src w p A L c k) (n : Nat) : Src (w.drewN n) p A L c k := ⟨h.lt, h.c0, h.c1, h.c2, h.f1, h.f2, h.ne⟩
theorem Src.below {w w' : World} {p : Nat} {A : Option Addr} {L c k : Nat} (h : Src w p A L c k) (b : Below w.heap.size w w') : Src w' p A L c k := by
  obtain ⟨hlt, c0, c1, ⟨z, hz, c2⟩, f1, f2, hne⟩ := h
  exact ⟨Nat.lt_of_lt_of_le hlt b.size, (b.cell hlt).trans c0, (b.cell hlt).trans c1, ⟨z, hz, (b.cell hlt).trans c2⟩, (b.frozen (p := ⟨p, 1, none⟩) hlt).trans f1, (b.frozen (p := ⟨p, 2, none⟩) hlt).trans f2, hne⟩
theorem pick_byte {z : Nat} (hz : z < 18446744073709551616) : ∃ x : Nat, x ≤ 255 ∧ wrap64 (bits BinOp.and IntKind.u64 ((z : Int) / 1099511627776) 255) = (x : Int) := by
  have h := bits_mask .u64 24 (by decide) (fun n h0 h1 => by
    have : IntKind.u64.wrap n = n % 18446744073709551616 := rfl
    rw [this]; omega) 8 (by decide) ((z : Int) / 1099511627776) (by omega) (by omega)
  have h' : bits BinOp.and IntKind.u64 ((z : Int) / 1099511627776) 255 = ((z : Int) / 1099511627776) % 256 := h
  refine ⟨((z : Int) / 1099511627776 % 256).toNat, by omega, ?_⟩
  rw [h']
  unfold wrap64
  omega
theorem ret_i {k : IntKind} {a b : Int} (h : a = b) : Ending.returned (.int k a) = .returned (.int k b) := by rw [h]
set_option maxRecDepth 100000 in
set_option maxHeartbeats 4000000 in
theorem next_any (w : World) (p : Nat) (A : Option Addr) (L c k : Nat) (hS : Src w p A L c k) (hB : BRd w A L) (hk : k ≤ 1000000) (_hL : L ≤ maxLen) :
    Calls Try.prog 35 #[.pointer (some ⟨p, 0, none⟩)] w fun e w' => ∃ x : Nat, e = .returned (.int .i64 x) ∧ x ≤ 255 ∧ Keep (· = p) w w' ∧ Src w' p A L c (k + 1) := by
  have HS := Lib.hid hS
  obtain ⟨hlt, c0, c1, ⟨z, hz, c2⟩, f1, f2, hne⟩ := hS
  unfold maxLen at _hL
  have hz1 : (z : Int) ≤ 18446744073709551615 := by omega
  by_cases hkL : k < L
  · obtain ⟨b, o, x, rfl, hb, hx, hc⟩ := hB k hkL
    go_enter Try.func35, Try.ntmps35
    go_wp2_with fail
    go_quiet (fail)
    go_wp2_with fail
    go_quiet (fail)
    go_wp2_with fail
    refine (fun (h : ∀ w6, Src w6 p (some ⟨b, o, none⟩) L c (k + 1) ∧ Keep (· = p) w w6 → Code.wp Try.prog _ _ _ w6) => h _ (HS.out.put _ _)) ?_
    rintro w6 ⟨S6, K6⟩
    have HS6 := Lib.hid S6
    obtain ⟨hlt6, c06, c16, _, _, _, _⟩ := S6
    go_quiet (fail)
    go_wp2_with fail
    go_ret
    exact ⟨x, rfl, hx, K6.trans (keep_drewN _ _ _), HS6.out.drewN _⟩
  · go_enter Try.func35, Try.ntmps35
    go_wp2_with fail
    go_quiet (fail)
    go_wp2_with fail
    refine (fun (h : ∀ w6, Src w6 p A L c (k + 1) ∧ Keep (· = p) w w6 → Code.wp Try.prog _ _ _ w6) => h _ (HS.out.put _ _)) ?_
    rintro w6 ⟨S6, K6⟩
    have HS6 := Lib.hid S6
    obtain ⟨hlt6, c06, c16, ⟨z6, hz6, c26⟩, _, _, _⟩ := S6
    go_quiet (fail)
    go_wp2_with fail
    go_ret
    obtain ⟨x, hx, e⟩ := pick_byte hz6
    exact ⟨x, ret_i e, hx, K6.trans (keep_drewN _ _ _), HS6.out.drewN _⟩
/-- A number below n. -/
def PickR (w : World) (p : Nat) (A : Option Addr) (L c k : Nat) (n : Nat) (e : Ending) (w' : World) : Prop := ∃ x : Nat, e = .returned (.int .i64 x) ∧ x < n ∧ Keep (· = p) w w' ∧ Src w' p A L c (k + 1)
theorem pick_any (w : World) (p : Nat) (A : Option Addr) (L c k n : Nat) (hS : Src w p A L c k) (hB : BRd w A L) (hk : k ≤ 1000000) (hL : L ≤ maxLen) (h2 : 2 ≤ n) (h200 : n ≤ 200) :
    Calls Try.prog 14 #[.pointer (some ⟨p, 0, none⟩), .int .i64 n] w (PickR w p A L c k n) := by
  have h2' : (1 : Int) < n := by omega
  have h3' : (n : Int) ≤ 200 := by omega
  have hS' := Lib.hid hS
  go_enter Try.func14, Try.ntmps14
  go_wp2_with fail
  refine (next_any w p A L c k hS'.out hB hk hL).mono ?_
  rintro e w1 ⟨x, rfl, hx, K, S⟩
  have HS := Lib.hid (And.intro K S)
  clear K S
  have hm : (x : Int) % n = ((x % n : Nat) : Int) := by omega
  have hlt : x % n < n := Nat.mod_lt _ (by omega)
  generalize x % n = m at hm hlt
  have HM := Lib.hid hm
  clear hm
  go_wp2
  go_ret
  exact ⟨m, ret_i HM.out, hlt, HS.out.1, HS.out.2⟩
theorem from_any (A : Option Addr) (L c : Nat) (w : World) (hB : BRd w A L) :
    Calls Try.prog 13 #[.slice A L c] w fun e w' => e = .returned (.pointer (some ⟨w.heap.size, 0, none⟩)) ∧ Below w.heap.size w w' ∧ Src w' w.heap.size A L c 0 := by
  go_enter Try.func13, Try.ntmps13
  go_wp2
  go_ret
  refine ⟨rfl, below_alloc _ _, ⟨by simp, by simp, by simp, ⟨0, by decide, by simp⟩, by simp, by simp, fun b o hl e h => ?_⟩⟩
  have := hB.lt hl e
  omega
end Go.Proofs.Ytamgekijihpgkaa
