/- IslandsOver: both sides answer one triple. -/
import Derived.Test.YtcdipgkdbannmaaIslN
namespace Go.Proofs.Ytcdipgkdbannmaa
open Go.RowKit

/-- What IslandsOver answers, as a relation. -/
def IslW (sw sh : Int) (xs : List Nat) (lev : Nat) (v : Int × Int × Bool) : Prop :=
  (ctOk sw sh xs lev = false ∧ v = (0, 0, false)) ∨ (ctOk sw sh xs lev = true ∧ ∃ (S : List Bool) (cs : List Nat), Isl (nbL sw.toNat sh.toNat) (ovB (cl xs) (cn .f32 lev)) (sw.toNat * sh.toNat) (sw.toNat * sh.toNat) S cs ∧ v = ((cs.length : Int), (maxL cs : Int), true))
theorem IslW.det {sw sh : Int} {xs : List Nat} {lev : Nat} {v v' : Int × Int × Bool} (h : IslW sw sh xs lev v) (h' : IslW sw sh xs lev v') : v = v' := by
  rcases h with ⟨a, rfl⟩ | ⟨a, S, cs, i, rfl⟩
  · rcases h' with ⟨_, rfl⟩ | ⟨b, _⟩
    · rfl
    · rw [a] at b; cases b
  · rcases h' with ⟨b, _⟩ | ⟨_, S', cs', i', rfl⟩
    · rw [a] at b; cases b
    · obtain ⟨rfl, rfl⟩ := i.det i'
      rfl
noncomputable def islv (sw sh : Int) (xs : List Nat) (lev : Nat) : Int × Int × Bool :=
  @dite _ (∃ v, IslW sw sh xs lev v) (Classical.propDecidable _) (fun h => Classical.choose h) (fun _ => (0, 0, false))
theorem islv_eq {sw sh : Int} {xs : List Nat} {lev : Nat} {v : Int × Int × Bool} (h : IslW sw sh xs lev v) : islv sw sh xs lev = v := by
  unfold islv
  have hx : ∃ v, IslW sw sh xs lev v := ⟨v, h⟩
  rw [dif_pos hx]
  exact (Classical.choose_spec hx).det h
def IslO (w : World) (a b : Int) (o : Bool) (e : Ending) (w' : World) : Prop := e = .returned (.tuple #[.int .i64 a, .int .i64 b, .bool o]) ∧ Below w.heap.size w w'
theorem IslO.of {w w' : World} {e : Ending} {sw sh : Int} {xs : List Nat} {lev : Nat} {a b : Int} {o : Bool} (h : IslW sw sh xs lev (a, b, o)) (he : e = .returned (.tuple #[.int .i64 a, .int .i64 b, .bool o])) (k : Below w.heap.size w w') :
    IslO w (islv sw sh xs lev).1 (islv sw sh xs lev).2.1 (islv sw sh xs lev).2.2 e w' := by
  rw [islv_eq h]
  exact ⟨he, k⟩
theorem ok_nat {sw sh : Int} {xs : List Nat} {lev : Nat} (h : ctOk sw sh xs lev = true) : ∃ W H : Nat, sw = W ∧ sh = H ∧ shB W H xs = true ∧ finB (cn .f32 lev) = true := by
  have h0 := h
  unfold ctOk at h
  rw [Bool.and_eq_true] at h
  obtain ⟨a, b, c, d, _, _⟩ := shB_all h.1
  refine ⟨sw.toNat, sh.toNat, by omega, by omega, ?_, h.2⟩
  rw [Int.toNat_of_nonneg (by omega), Int.toNat_of_nonneg (by omega)]
  exact h.1
theorem specIs_any (sw sh : Int) (A : Option Addr) (c : Nat) (xs : List Nat) (lev : Nat) (w : World) (hA : FRd w A xs) (hn : xs.length ≤ maxLen) :
    Calls Try.prog 23 #[shv sw sh A xs.length c, .float .f32 lev] w (IslO w (islv sw sh xs lev).1 (islv sw sh xs lev).2.1 (islv sw sh xs lev).2.2) := by
  cases ho : ctOk sw sh xs lev
  · refine (specIs_no sw sh A c xs lev w hA hn ho).mono ?_
    rintro e w1 ⟨rfl, k⟩
    exact IslO.of (.inl ⟨ho, rfl⟩) rfl k
  · obtain ⟨W, H, rfl, rfl, hs, hl⟩ := ok_nat ho
    refine (specIs_yes W H A c xs lev w hA hn hs hl).mono ?_
    rintro e w1 ⟨S, cs, i, rfl, k⟩
    exact IslO.of (.inr ⟨ho, S, cs, i, rfl⟩) rfl k
theorem implIs_any (sw sh : Int) (A : Option Addr) (c : Nat) (xs : List Nat) (lev : Nat) (w : World) (hA : FRd w A xs) (hn : xs.length ≤ maxLen) :
    Calls Try.prog 24 #[shv sw sh A xs.length c, .float .f32 lev] w (IslO w (islv sw sh xs lev).1 (islv sw sh xs lev).2.1 (islv sw sh xs lev).2.2) := by
  cases ho : ctOk sw sh xs lev
  · refine (implIs_no sw sh A c xs lev w hA hn ho).mono ?_
    rintro e w1 ⟨rfl, k⟩
    exact IslO.of (.inl ⟨ho, rfl⟩) rfl k
  · obtain ⟨W, H, rfl, rfl, hs, hl⟩ := ok_nat ho
    refine (implIs_yes W H A c xs lev w hA hn hs hl).mono ?_
    rintro e w1 ⟨S, cs, i, rfl, k⟩
    exact IslO.of (.inr ⟨ho, S, cs, i, rfl⟩) rfl k
end Go.Proofs.Ytcdipgkdbannmaa
