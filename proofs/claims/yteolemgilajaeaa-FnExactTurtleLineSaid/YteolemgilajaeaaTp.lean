/- The turtle's way as a plain function; several slices of the call's own side by side; an element of several cells appended. -/
import Derived.Test.YteolemgilajaeaaCx
import Derived.Test.YteolemgilajaeaaWd
import Derived.Test.YteolemgilajaeaaPhE
namespace Go.Proofs.Yteolemgilajaeaa
open Go.RowKit

structure TS where
  at_ : Nat × Nat
  now : Nat
  st : List ((Nat × Nat) × Nat)
  fr : List (Nat × Nat)
  to : List (Nat × Nat)
def cadd (a b : Nat × Nat) : Nat × Nat := (fop .add .f32 a.1 b.1, fop .add .f32 a.2 b.2)
def cscale (p : Nat × Nat) (k : Nat) : Nat × Nat := (fop .mul .f32 p.1 k, fop .mul .f32 p.2 k)
def tAt (step : Nat) (S : TS) : Nat × Nat := cadd S.at_ (cscale (phV (c64 S.now)) step)
/-- One letter. -/
def tStep (turn step : Nat) (b : UInt8) (S : TS) : Option TS :=
  if b = 70 ∨ b = 71 then some ⟨tAt step S, S.now, S.st, S.fr ++ [S.at_], S.to ++ [tAt step S]⟩ else
  if b = 43 then some ⟨S.at_, fop .add .f32 S.now turn, S.st, S.fr, S.to⟩ else
  if b = 45 then some ⟨S.at_, fop .sub .f32 S.now turn, S.st, S.fr, S.to⟩ else
  if b = 91 then some ⟨S.at_, S.now, S.st ++ [(S.at_, S.now)], S.fr, S.to⟩ else
  if b = 93 then (match S.st.getLast? with | none => none | some x => some ⟨x.1, x.2, S.st.dropLast, S.fr, S.to⟩) else some S
def tRun (turn step : Nat) (l : List UInt8) (S : Option TS) : Option TS := l.foldl (fun o b => o.bind (tStep turn step b)) S
theorem tRun_snoc (turn step : Nat) (l : List UInt8) (b : UInt8) (S : Option TS) : tRun turn step (l ++ [b]) S = (tRun turn step l S).bind (tStep turn step b) := by simp [tRun]
theorem tRun_none (turn step : Nat) (l : List UInt8) : tRun turn step l none = none := by
  induction l with
  | nil => rfl
  | cons a l ih => simpa [tRun] using ih
theorem tRun_app (turn step : Nat) (l m : List UInt8) (S : Option TS) : tRun turn step (l ++ m) S = tRun turn step m (tRun turn step l S) := by simp [tRun]
theorem tStep_len {turn step : Nat} {b : UInt8} {S T : TS} (h : tStep turn step b S = some T) : S.to.length ≤ T.to.length ∧ T.to.length ≤ S.to.length + 1 ∧ (S.fr.length = S.to.length → T.fr.length = T.to.length) ∧ T.st.length ≤ S.st.length + 1 := by
  unfold tStep at h
  split at h
  · injection h with h; subst h; simp
  split at h
  · injection h with h; subst h; simp
  split at h
  · injection h with h; subst h; simp
  split at h
  · injection h with h; subst h; simp
  split at h
  · split at h
    · cases h
    · injection h with h; subst h; simp; omega
  · injection h with h; subst h; simp
/-- The count of moves never falls. -/
theorem tRun_mono (turn step : Nat) (l : List UInt8) : ∀ (S T : TS), tRun turn step l (some S) = some T → S.to.length ≤ T.to.length ∧ T.to.length ≤ S.to.length + l.length ∧ (S.fr.length = S.to.length → T.fr.length = T.to.length) ∧ T.st.length ≤ S.st.length + l.length := by
  induction l with
  | nil => intro S T h; simp [tRun] at h; subst h; simp
  | cons b l ih =>
    intro S T h
    have h' : tRun turn step l (tStep turn step b S) = some T := h
    cases hs : tStep turn step b S with
    | none => rw [hs, tRun_none] at h'; cases h'
    | some U =>
      rw [hs] at h'
      obtain ⟨a1, a2, a3, a4⟩ := tStep_len hs
      obtain ⟨b1, b2, b3, b4⟩ := ih U T h'
      refine ⟨by omega, by simp; omega, fun h => b3 (a3 h), by simp; omega⟩
def t0 : TS := ⟨(0, 0), 0, [], [], []⟩
/-- The answer: where the moves begin and end, if the word is one and all is well. -/
def tOut (turn step most : Nat) (l : List UInt8) : Option (List (Nat × Nat) × List (Nat × Nat)) :=
  match tRun turn step l (some t0) with
  | none => none
  | some T => if T.st.length = 0 ∧ T.to.length ≤ most ∧ finQ T.fr = true ∧ finQ T.to = true then some (T.fr, T.to) else none

/-- A slice of the call's own stays at an append to another. -/
theorem apart_push {w w' : World} {base : Nat} {v v' y : Value} {e : TypeId} {size m : Nat} {ys : List Value} (K : Keep (fun k => v.ownBlock = some k) w w') (hn : ∀ g, v'.ownBlock = some g → v.ownBlock = some g ∨ w.heap.size < g)
    (hy : w.ownsRow base e size y m ys) (ha : Apart y v) : w'.ownsRow base e size y m ys ∧ Apart y v' := by
  refine ⟨own_keep hy K (fun g hg hv => ha g hg hv), fun g hg hv' => ?_⟩
  rcases hn g hv' with h | h
  · exact ha g hg h
  · have := (hy.lt g hg).2
    omega
theorem apart_nil (y : Value) : Apart y (.slice none 0 0) := fun g _ h => by cases h
theorem own_blk {w : World} {base : Nat} {e : TypeId} {size n : Nat} {v : Value} {xs : List Value} (h : w.ownsRow base e size v n xs) {g : Nat} (hg : v.ownBlock = some g) : base ≤ g ∧ g < w.heap.size := h.lt g hg
/-- append(v, u), u of several cells, just laid in a block of its own. -/
theorem wpList_pushZ {P : Program} {w : World} {us : List Value} {tu : TypeId} {ops : Array Oper} {rest : List Oper} {o : Oper} {a : Act} {Q : Exit → Act → World → Prop} (hgd : o.guard = none) (s x : Operand) (t : TypeId)
    (ho : o.op = .call { callee := .builtin .append, args := #[s, x], argTypes := #[t, t] })
    (base : Nat) (e : TypeId) (i : TypeInfo) (z : Value) (bytes : Nat) (ht : P.underlying t = some (.slice e)) (hi : P.info? e = some i) (hz : i.zero = some z)
    (hsize : i.size = us.length) (hby : i.bytes = bytes) (hzs : z.cells.size = us.length) (hpos : 0 < us.length)
    (v : Value) (n : Nat) (xs : List Value) (hs : a.eval s = v) (hown : w.ownsRow base e us.length v n xs)
    (c : Nat) (hx : a.eval x = .slice (some ⟨w.heap.size, 0, none⟩) 1 c) (h1 : ∀ u ∈ us, u.oneCell' = true)
    (h63 : n + 1 ≤ maxLen) (hbytes : (n + 1) * bytes ≤ 140737488355328) (hbase : base ≤ w.heap.size)
    (h : ∀ v' w', w'.ownsRow base e us.length v' (n + 1) (xs ++ us) → Keep (fun k => v.ownBlock = some k) w w' →
      (∀ g, v'.ownBlock = some g → v.ownBlock = some g ∨ w.heap.size < g) → wpList P ops Q rest (a.put o.dst v') w') : wpList P ops Q (o :: rest) a (w.alloc (.cells us.toArray tu)) := by
  have hb1 : Below w.heap.size w (w.alloc (.cells us.toArray tu)) := (Below.refl _ _).alloc (Nat.le_refl _) _
  have hnews : ∀ j y, us[j]? = some y → (w.alloc (.cells us.toArray tu)).cell? ((⟨w.heap.size, 0, none⟩ : Addr).add j) = some y := by
    intro j y hj
    have ea : (⟨w.heap.size, 0, none⟩ : Addr).add j = ⟨w.heap.size, j, none⟩ := by
      unfold Addr.add
      split
      · rename_i h; rw [h]
      · simp
    rw [ea]
    unfold World.cell?
    rw [heap_alloc_new]
    simp [hj]
  have hz1 : (w.alloc (.cells us.toArray tu)).heap.size = w.heap.size + 1 := World.size_alloc _ _
  have hbase1 : base ≤ (w.alloc (.cells us.toArray tu)).heap.size := by omega
  obtain ⟨v', w', hr, h2, h3, _⟩ := run_append_own (P := P) (w.alloc (.cells us.toArray tu)) base t o.type e i z us.length bytes ht hi hz hsize hby hzs hpos v n xs (hown.alloc _) ⟨w.heap.size, 0, none⟩ 1 c us (by simp) hnews h1 h63 hbytes hbase1
  have hpl := append_place (w.alloc (.cells us.toArray tu)) base t o.type e i z ht hi hz v n xs (by rw [hsize]; exact hown.alloc _) ⟨w.heap.size, 0, none⟩ 1 c us (by rw [hsize]; simp) hnews h1 h63 (by rw [hby]; exact hbytes) (by decide) v' w' hr
  have hgo := h v' w' h2 (by
    have hk1 : Keep (fun k => v.ownBlock = some k) w (w.alloc (.cells us.toArray tu)) := Keep.of_below hb1
    refine hk1.trans ⟨h3.os, h3.tape, h3.output, h3.size, fun k hk hs => h3.block k hk fun h => hs h.symm⟩) (by
    intro g hg
    rcases hpl with hp | hp
    · exact .inl (hp ▸ hg)
    · rw [hp] at hg
      right
      have : (w.alloc (.cells us.toArray tu)).heap.size = g := by simpa using hg
      omega)
  refine wpList_plain hgd fun _ hK => ?_
  unfold Oper.wp execOp
  simp only [ho, resolve, invoke, builtin, Sem.run_bind, Sem.run_pure, Result.andThen_ok, List.map_toArray, List.map_cons, List.map_nil, hs, hx, hr]
  exact hK _ _ hgo
end Go.Proofs.Yteolemgilajaeaa
