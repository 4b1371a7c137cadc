/- A sheet in a box. -/
import Derived.Test.YtcdipgkdbannmaaValid
namespace Go.Proofs.Ytcdipgkdbannmaa
open Go.RowKit

structure BoxS (w : World) (p : Nat) (sw sh : Int) (A : Option Addr) (n c : Nat) : Prop where
  lt : p < w.heap.size
  c0 : w.cell? ⟨p, 0, none⟩ = some (.int .i64 sw)
  c1 : w.cell? ⟨p, 1, none⟩ = some (.int .i64 sh)
  c2 : w.cell? ⟨p, 2, none⟩ = some (.slice A n c)
theorem BoxS.below {w w' : World} {p : Nat} {sw sh : Int} {A : Option Addr} {n c : Nat} (h : BoxS w p sw sh A n c) (k : Below w.heap.size w w') : BoxS w' p sw sh A n c :=
  ⟨Nat.lt_of_lt_of_le h.lt k.size, (k.cell h.lt).trans h.c0, (k.cell h.lt).trans h.c1, (k.cell h.lt).trans h.c2⟩
theorem BoxS.keep {S : Nat → Prop} {w w' : World} {p : Nat} {sw sh : Int} {A : Option Addr} {n c : Nat} (h : BoxS w p sw sh A n c) (k : Keep S w w') (hs : ¬ S p) : BoxS w' p sw sh A n c :=
  ⟨Nat.lt_of_lt_of_le h.lt k.size, (k.cell (p := ⟨p, 0, none⟩) h.lt hs).trans h.c0, (k.cell (p := ⟨p, 1, none⟩) h.lt hs).trans h.c1, (k.cell (p := ⟨p, 2, none⟩) h.lt hs).trans h.c2⟩
theorem BoxS.drewN {w : World} {p : Nat} {sw sh : Int} {A : Option Addr} {n c : Nat} (h : BoxS w p sw sh A n c) (m : Nat) : BoxS (w.drewN m) p sw sh A n c := ⟨h.lt, h.c0, h.c1, h.c2⟩
theorem boxS_new (w : World) (sw sh : Int) (A : Option Addr) (n c : Nat) (t : TypeId) (p : Nat) (hp : p = w.heap.size) : BoxS (w.alloc (.cells #[.int .i64 sw, .int .i64 sh, .slice A n c] t)) p sw sh A n c := by
  subst hp
  exact ⟨by simp, by simp, by simp, by simp⟩
end Go.Proofs.Ytcdipgkdbannmaa
