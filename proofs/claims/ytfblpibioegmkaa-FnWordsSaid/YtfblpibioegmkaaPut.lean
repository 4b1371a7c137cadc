/- Putting a rule among sorted ones: the reference's fold, the program's search and insertion. Plain: nothing of the dump. -/
import Derived.Lib.Hide
namespace Go.Proofs.Ytfblpibioegmkaa

section
variable {α : Type} (h : α → Int)
/-- Put in order; in the place of one that is equal. -/
def putL (r : α) : List α → List α
  | [] => [r]
  | x :: l => if h x < h r then x :: putL r l else if h x = h r then r :: l else r :: x :: l
/-- The reference's round: the list so far, and whether the new one lies in it. -/
def putS (r : α) (s : List α × Bool) (x : α) : List α × Bool :=
  let s1 := if s.2 = false ∧ h r ≤ h x then (s.1 ++ [r], true) else s
  (if h x = h r then s1.1 else s1.1 ++ [x], s1.2)
def putF (r : α) (l : List α) : List α × Bool := l.foldl (putS h r) ([], false)
def putE (r : α) (l : List α) : List α := if (putF h r l).2 then (putF h r l).1 else (putF h r l).1 ++ [r]
variable {h}
theorem putF_snoc (r : α) (l : List α) (x : α) : putF h r (l ++ [x]) = putS h r (putF h r l) x := by simp [putF]
def Srt (h : α → Int) (l : List α) : Prop := l.Pairwise fun a b => h a < h b
theorem rest_all {r : α} : ∀ {l : List α} (acc : List α), (∀ x ∈ l, h r < h x) → l.foldl (putS h r) (acc, true) = (acc ++ l, true)
  | [], acc, _ => by simp
  | x :: l, acc, hx => by
    have h1 : h r < h x := hx x (by simp)
    have e : putS h r (acc, true) x = (acc ++ [x], true) := by
      unfold putS
      simp
      omega
    rw [List.foldl_cons, e, rest_all (acc ++ [x]) (fun y hy => hx y (by simp [hy]))]
    simp
theorem fold_eq {r : α} : ∀ {l : List α} (acc : List α), Srt h l → (if (l.foldl (putS h r) (acc, false)).2 then (l.foldl (putS h r) (acc, false)).1 else (l.foldl (putS h r) (acc, false)).1 ++ [r]) = acc ++ putL h r l
  | [], acc, _ => by simp [putL]
  | x :: l, acc, hs => by
    obtain ⟨h1, h2⟩ := List.pairwise_cons.1 hs
    rw [List.foldl_cons]
    by_cases hlt : h x < h r
    · have e : putS h r (acc, false) x = (acc ++ [x], false) := by
        unfold putS
        rw [if_neg (by simp; omega)]
        simp
        omega
      rw [e, fold_eq (acc ++ [x]) h2]
      simp [putL, hlt]
    · by_cases heq : h x = h r
      · have e : putS h r (acc, false) x = (acc ++ [r], true) := by
          unfold putS
          rw [if_pos ⟨rfl, by omega⟩]
          simp [heq]
        rw [e, rest_all _ (fun y hy => by have := h1 y hy; omega)]
        simp [putL, heq]
      · have e : putS h r (acc, false) x = (acc ++ [r] ++ [x], true) := by
          unfold putS
          rw [if_pos ⟨rfl, by omega⟩]
          simp [heq]
        rw [e, rest_all _ (fun y hy => by have := h1 y hy; omega)]
        simp [putL, hlt, heq]
theorem putE_eq {r : α} {l : List α} (hs : Srt h l) : putE h r l = putL h r l := by
  have := fold_eq (r := r) [] hs
  rw [List.nil_append] at this
  unfold putE putF
  exact this
/-- The program: in the place of one that is equal. -/
theorem putL_set {r : α} : ∀ {l : List α} {i : Nat} (hi : i < l.length), (∀ j (hj : j < l.length), j < i → h l[j] < h r) → h l[i] = h r → putL h r l = l.set i r
  | x :: l, 0, _, _, he => by
    have he : h x = h r := he
    simp [putL, he]
  | x :: l, i + 1, hi, hb, he => by
    have h1 : h x < h r := hb 0 (by simp) (by omega)
    have ih := putL_set (l := l) (i := i) (by simpa using hi) (fun j hj hji => hb (j + 1) (by simpa using hj) (by omega)) (by simpa using he)
    simp [putL, h1, ih]
/-- The program: put between. -/
theorem putL_ins {r : α} : ∀ {l : List α} {i : Nat} (_hi : i ≤ l.length), (∀ j (hj : j < l.length), j < i → h l[j] < h r) → (∀ j (hj : j < l.length), i ≤ j → h r < h l[j]) → putL h r l = l.take i ++ r :: l.drop i
  | [], i, _, _, _ => by simp [putL]
  | x :: l, 0, _, _, ha => by
    have h1 : h r < h x := ha 0 (by simp) (by omega)
    have h2 : ¬ h x < h r := by omega
    have h3 : ¬ h x = h r := by omega
    simp [putL, h2, h3]
  | x :: l, i + 1, hi, hb, ha => by
    have h1 : h x < h r := hb 0 (by simp) (by omega)
    have ih := putL_ins (l := l) (i := i) (by simpa using hi) (fun j hj hji => hb (j + 1) (by simpa using hj) (by omega)) (fun j hj hij => ha (j + 1) (by simpa using hj) (by omega))
    simp [putL, h1, ih]
theorem putL_len {r : α} : ∀ {l : List α}, (putL h r l).length ≤ l.length + 1
  | [] => by simp [putL]
  | x :: l => by
    have := putL_len (r := r) (l := l)
    unfold putL
    split
    · simp; omega
    · split
      · simp
      · simp
theorem srt_at {l : List α} (hs : Srt h l) {i j : Nat} (hj : j < l.length) (hij : i < j) : h (l[i]'(by omega)) < h l[j] :=
  (List.pairwise_iff_getElem.1 hs) i j (by omega) hj hij
end
end Go.Proofs.Ytfblpibioegmkaa
