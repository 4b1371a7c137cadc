/- Words for memory: a slice that reads as a list of cells; a world of which all but some blocks is as it was. Nothing of the dump. -/
import Derived.WalkKit
import Derived.ProofKit
import Derived.WalkLawsBesides
import Derived.WalkSpells
import Derived.WalkSmall
import Derived.Lib.Hide
import Derived.Deep.Draws
namespace Go.Proofs.Ytamgekijihpgkaa
open Go.RowKit

theorem ret_bool {a b : Bool} (h : a = b) : Ending.returned (.bool a) = .returned (.bool b) := by rw [h]
theorem ret_int {k : IntKind} {a b : Int} (h : a = b) : Ending.returned (.int k a) = .returned (.int k b) := by rw [h]
theorem ret_string {a b : ByteArray} (h : a = b) : Ending.returned (.string a) = .returned (.string b) := by rw [h]

/-- The cells from A on hold xs, in blocks that there are. -/
def Rd (w : World) (A : Option Addr) (xs : List Value) : Prop :=
  ∀ (i : Nat) (u : Value), xs[i]? = some u → ∃ b o, A = some ⟨b, o, none⟩ ∧ b < w.heap.size ∧ w.cell? ⟨b, o + i, none⟩ = some u

/-- All blocks that there were, but those of S, are as they were. -/
structure Keep (S : Nat → Prop) (w w' : World) : Prop where
  os : w'.os = w.os
  tape : w'.tape = w.tape
  output : w'.output = w.output
  size : w.heap.size ≤ w'.heap.size
  block : ∀ k, k < w.heap.size → ¬ S k → w'.heap[k]? = w.heap[k]?

section
variable {S T : Nat → Prop} {w w' w2 : World} {A : Option Addr} {xs : List Value}
theorem Keep.refl (S : Nat → Prop) (w : World) : Keep S w w := ⟨rfl, rfl, rfl, Nat.le_refl _, fun _ _ _ => rfl⟩
theorem Keep.trans (h : Keep S w w') (k : Keep S w' w2) : Keep S w w2 :=
  ⟨k.os.trans h.os, k.tape.trans h.tape, k.output.trans h.output, Nat.le_trans h.size k.size,
    fun i hi hs => (k.block i (Nat.lt_of_lt_of_le hi h.size) hs).trans (h.block i hi hs)⟩
theorem Keep.weak (h : Keep S w w') (hs : ∀ k, k < w.heap.size → S k → T k) : Keep T w w' := ⟨h.os, h.tape, h.output, h.size, fun k hk ht => h.block k hk fun s => ht (hs k hk s)⟩
theorem Keep.of_below (h : Below w.heap.size w w') : Keep S w w' := ⟨h.os, h.tape, h.output, h.size, fun k hk _ => h.block k hk⟩
theorem Keep.drewN (h : Keep S w w') (n : Nat) : Keep S w (w'.drewN n) := ⟨h.os, h.tape, h.output, h.size, h.block⟩
theorem Keep.setCell (h : Keep S w w') {p : Addr} (hp : S p.block ∨ w.heap.size ≤ p.block) (u : Value) : Keep S w (w'.setCell p u) :=
  ⟨h.os, h.tape, h.output, by simpa [World.setCell] using h.size, fun k hk hs =>
    (Below.heap_setCell _ _ _ _ (fun e => by subst e; rcases hp with hp | hp; exact hs hp; omega)).trans (h.block k hk hs)⟩
/-- What is kept below B, if all that may have turned lies from B on. -/
theorem Keep.below {B : Nat} {W : World} (h : Below B W w) (k : Keep S w w') (hB : B ≤ w.heap.size) (hs : ∀ k, S k → B ≤ k) : Below B W w' :=
  h.trans ⟨k.os, k.tape, k.output, k.size, fun i hi => k.block i (by omega) fun s => by have := hs i s; omega⟩

theorem Rd.nil : Rd w A [] := fun i u h => by simp at h
theorem Rd.keep (h : Rd w A xs) (k : Keep S w w') (hA : ∀ b o, A = some ⟨b, o, none⟩ → ¬ S b) : Rd w' A xs := fun i u hu => by
  obtain ⟨b, o, e, hb, hc⟩ := h i u hu
  exact ⟨b, o, e, Nat.lt_of_lt_of_le hb k.size, (World.cell?_of_block (w := w) (k.block b hb (hA b o e))).trans hc⟩
theorem Rd.below (h : Rd w A xs) (k : Below w.heap.size w w') : Rd w' A xs := h.keep (Keep.of_below (S := fun _ => False) k) (fun _ _ _ => id)
theorem Rd.drewN (h : Rd w A xs) (n : Nat) : Rd (w.drewN n) A xs := h
theorem Rd.of_own {base n c : Nat} {e : TypeId} {size : Nat} (h : w.ownsRow base e size (.slice A n c) n xs) : Rd w A xs := fun i u hu => by
  rcases h.2 with ⟨hv, hn⟩ | ⟨g, cap, cur, hv, hg, hh, hr⟩
  · have := h.1
    subst hn
    have hx : xs = [] := List.eq_nil_of_length_eq_zero (by simpa using this)
    subst hx
    simp at hu
  · injection hv with hA
    refine ⟨g, 0, hA, ?_, ?_⟩
    · rcases Nat.lt_or_ge g w.heap.size with hlt | hge
      · exact hlt
      · rw [Array.getElem?_eq_none hge] at hh; cases hh
    · have := h.cells (g := g) (by rw [hA]; rfl) i u hu
      simpa [Addr.add_lit] using this
theorem Below.step {w1 : World} (h : Below w.heap.size w w1) (k : Below w1.heap.size w1 w2) : Below w.heap.size w w2 := h.trans (k.mono h.size)
theorem below_alloc (w : World) (o : Obj) : Below w.heap.size w (w.alloc o) := (Below.refl _ _).alloc (Nat.le_refl _) o
theorem size_alloc_lt (w : World) (o : Obj) : w.heap.size ≤ (w.alloc o).heap.size := (below_alloc w o).size
theorem Keep.cell (k : Keep S w w') {p : Addr} (hb : p.block < w.heap.size) (hs : ¬ S p.block) : w'.cell? p = w.cell? p := World.cell?_of_block (w := w) (k.block p.block hb hs)

/-- The block of an address. -/
def InA (A : Option Addr) (k : Nat) : Prop := ∃ o, A = some ⟨k, o, none⟩
/-- The n cells from A are there and may be written. -/
def WrA (w : World) (A : Option Addr) (n : Nat) : Prop := ∀ j, j < n → ∃ b o, A = some ⟨b, o, none⟩ ∧ b < w.heap.size ∧ (∃ v, w.cell? ⟨b, o + j, none⟩ = some v) ∧ w.frozen? ⟨b, o + j, none⟩ = false
theorem WrA.keep {n : Nat} (h : WrA w A n) (k : Keep S w w') (hs : ∀ b, InA A b → ¬ S b) : WrA w' A n := fun j hj => by
  obtain ⟨b, o, e, hb, ⟨v, hv⟩, hf⟩ := h j hj
  have hsb := hs b ⟨o, e⟩
  exact ⟨b, o, e, Nat.lt_of_lt_of_le hb k.size, ⟨v, (k.cell hb hsb).trans hv⟩, (World.frozen?_of_block (w := w) (k.block b hb hsb)).trans hf⟩
theorem WrA.below {n : Nat} (h : WrA w A n) (k : Below w.heap.size w w') : WrA w' A n := h.keep (Keep.of_below (S := fun _ => False) k) (fun _ _ => id)
theorem WrA.set {n : Nat} (h : WrA w A n) (p : Addr) (u : Value) : WrA (w.setCell p u) A n := fun j hj => by
  obtain ⟨b, o, e, hb, ⟨v, hv⟩, hf⟩ := h j hj
  refine ⟨b, o, e, by simpa [World.setCell] using hb, ?_, by simpa using hf⟩
  by_cases hp : p = ⟨b, o + j, none⟩
  · subst hp; exact ⟨u, World.cell?_setCell_same _ _ _ hv⟩
  · exact ⟨v, (World.cell?_setCell_other _ _ _ _ hp).trans hv⟩
theorem WrA.of_own {base n c : Nat} {e : TypeId} (h : w.ownsRow base e 1 (.slice A n c) n xs) : WrA w A n := fun j hj => by
  have hr := Rd.of_own h
  have hl := h.1
  obtain ⟨b, o, hA, hb, hc⟩ := hr j xs[j] (List.getElem?_eq_getElem (by omega))
  refine ⟨b, o, hA, hb, ⟨_, hc⟩, ?_⟩
  rcases h.2 with ⟨_, hn⟩ | ⟨g, cap, cur, hv, hg, hh, hrest⟩
  · omega
  · injection hv with hA'
    rw [hA] at hA'
    injection hA' with hA'
    injection hA' with h1 h2
    subst h1
    unfold World.frozen?
    rw [hh]
    simp
theorem own_ge {base n c : Nat} {e : TypeId} {size : Nat} (h : w.ownsRow base e size (.slice A n c) n xs) : ∀ b, InA A b → base ≤ b := fun b ⟨o, hA⟩ => by
  subst hA
  exact (h.lt b rfl).1
theorem own_lt {base n c : Nat} {e : TypeId} {size : Nat} (h : w.ownsRow base e size (.slice A n c) n xs) : ∀ b, InA A b → b < w.heap.size := fun b ⟨o, hA⟩ => by
  subst hA
  exact (h.lt b rfl).2
theorem Rd.in_ {i : Nat} {u : Value} (h : Rd w A xs) (hi : xs[i]? = some u) : ∃ b, InA A b ∧ b < w.heap.size := by
  obtain ⟨b, o, e, hb, _⟩ := h i u hi
  exact ⟨b, ⟨o, e⟩, hb⟩
theorem Rd.keepA (h : Rd w A xs) (k : Keep S w w') (hs : ∀ b, InA A b → ¬ S b) : Rd w' A xs := h.keep k (fun b o e => hs b ⟨o, e⟩)
/-- One cell written, the others as they were: the list with one element more. -/
theorem Rd.put {j : Nat} {b o : Nat} {u : Value} (h : Rd w (some ⟨b, o, none⟩) xs) (hl : xs.length = j) (hb : b < w.heap.size) (hv : ∃ v, w.cell? ⟨b, o + j, none⟩ = some v) :
    Rd (w.setCell ⟨b, o + j, none⟩ u) (some ⟨b, o, none⟩) (xs ++ [u]) := fun i v hi => by
  refine ⟨b, o, rfl, by simpa [World.setCell] using hb, ?_⟩
  by_cases e : i = j
  · subst e
    subst hl
    rw [List.getElem?_append_right (Nat.le_refl _), Nat.sub_self] at hi
    obtain rfl : u = v := by simpa using hi
    obtain ⟨v', hv'⟩ := hv
    exact World.cell?_setCell_same _ _ _ hv'
  · have hlt : i < xs.length := by
      have := (List.getElem?_eq_some_iff.1 hi).1
      simp at this
      omega
    rw [List.getElem?_append_left hlt] at hi
    obtain ⟨b', o', hA, _, hc⟩ := h i v hi
    injection hA with hA
    injection hA with h1 h2
    subst h1; subst h2
    exact (World.cell?_setCell_other _ _ _ _ (by simp <;> omega)).trans hc

/-- A slice of the call's own: it reads as xs, it may be written, its block is no older than number B. -/
def OwnS (B : Nat) (w : World) (A : Option Addr) (xs : List Value) : Prop := Rd w A xs ∧ WrA w A xs.length ∧ ∀ b, InA A b → B ≤ b ∧ b < w.heap.size
theorem OwnS.of_own {base n c : Nat} {e : TypeId} (h : w.ownsRow base e 1 (.slice A n c) n xs) : OwnS base w A xs :=
  ⟨Rd.of_own h, by have := h.1; rw [this, Nat.mul_one]; exact WrA.of_own h, fun b hb => ⟨own_ge h b hb, own_lt h b hb⟩⟩
theorem OwnS.keep {B : Nat} (h : OwnS B w A xs) (k : Keep S w w') (hs : ∀ b, InA A b → ¬ S b) : OwnS B w' A xs :=
  ⟨h.1.keepA k hs, h.2.1.keep k hs, fun b hb => ⟨(h.2.2 b hb).1, Nat.lt_of_lt_of_le (h.2.2 b hb).2 k.size⟩⟩
theorem OwnS.below {B : Nat} (h : OwnS B w A xs) (k : Below w.heap.size w w') : OwnS B w' A xs := h.keep (Keep.of_below (S := fun _ => False) k) (fun _ _ => id)
theorem OwnS.drewN {B : Nat} (h : OwnS B w A xs) (n : Nat) : OwnS B (w.drewN n) A xs := h
theorem OwnS.less {B B' : Nat} (h : OwnS B w A xs) (hB : B' ≤ B) : OwnS B' w A xs := ⟨h.1, h.2.1, fun b hb => ⟨Nat.le_trans hB (h.2.2 b hb).1, (h.2.2 b hb).2⟩⟩
theorem OwnS.nil (B : Nat) : OwnS B w none [] := ⟨Rd.nil, fun j hj => absurd hj (by simp), fun b ⟨o, h⟩ => by cases h⟩
end
end Go.Proofs.Ytamgekijihpgkaa
