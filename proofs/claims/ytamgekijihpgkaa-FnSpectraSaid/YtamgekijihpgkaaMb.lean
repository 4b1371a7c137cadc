/- Several texts in one: Push, Push2, PushK. -/
import Derived.Test.YtamgekijihpgkaaRep
/- One element appended to a slice of the call's own. -/
namespace Go.Proofs.Ytamgekijihpgkaa
open Go.RowKit

theorem own_below {base n : Nat} {e : TypeId} {size : Nat} {v : Value} {xs : List Value} {w w' : World} {row : Option Nat} (h : w.ownsRow base e size v n xs) (hg : w.grownBy w' row) (hr : row = v.ownBlock) (hb : base ≤ w.heap.size) : Below base w w' :=
  (Below.refl _ _).grown hg hb (fun k hk => (h.lt k (by rw [← hr]; exact hk)).1)

/-- append(v, u), u just laid in a block of its own. -/
theorem wpList_push {P : Program} {w : World} {u : Value} {tu : TypeId} {ops : Array Oper} {rest : List Oper} {o : Oper} {a : Act} {Q : Exit → Act → World → Prop} (hgd : o.guard = none) (s x : Operand) (t : TypeId)
    (ho : o.op = .call { callee := .builtin .append, args := #[s, x], argTypes := #[t, t] })
    (base : Nat) (e : TypeId) (i : TypeInfo) (z : Value) (bytes : Nat) (ht : P.underlying t = some (.slice e)) (hi : P.info? e = some i) (hz : i.zero = some z)
    (hsize : i.size = 1) (hby : i.bytes = bytes) (hzs : z.cells.size = 1)
    (v : Value) (n : Nat) (xs : List Value) (hs : a.eval s = v) (hown : w.ownsRow base e 1 v n xs)
    (c : Nat) (hx : a.eval x = .slice (some ⟨w.heap.size, 0, none⟩) 1 c) (h1 : u.oneCell' = true)
    (h63 : n + 1 ≤ maxLen) (hbytes : (n + 1) * bytes ≤ 140737488355328) (hbase : base ≤ w.heap.size)
    (h : ∀ v' w', w'.ownsRow base e 1 v' (n + 1) (xs ++ [u]) → Below base w w' → wpList P ops Q rest (a.put o.dst v') w') : wpList P ops Q (o :: rest) a (w.alloc (.cells #[u] tu)) := by
  have hb1 : Below base w (w.alloc (.cells #[u] tu)) := (Below.refl _ _).alloc hbase _
  refine wpList_append_own (w.alloc (.cells #[u] tu)) hgd s x t ho base e i z 1 bytes ht hi hz hsize hby hzs (by decide) v n xs hs (hown.alloc _) ⟨w.heap.size, 0, none⟩ 1 c [u] hx rfl ?_ ?_ h63 hbytes (Nat.le_trans hbase hb1.size) ?_
  · intro j y hj
    match j, hj with
    | 0, hj =>
      obtain rfl : u = y := by simpa using hj
      unfold World.cell?
      rw [Addr.add_zero', heap_alloc_new]
      rfl
    | j + 1, hj => simp at hj
  · intro y hy
    obtain rfl : y = u := by simpa using hy
    exact h1
  · intro v' w' ho' hg _
    exact h v' w' ho' (hb1.trans (own_below (hown.alloc _) hg rfl (Nat.le_trans hbase hb1.size)))
theorem own_made0 (w : World) (base : Nat) (e : TypeId) (hb : base ≤ w.heap.size) : (w.alloc (.cells #[] e)).ownsRow base e 1 (.slice (some ⟨w.heap.size, 0, none⟩) 0 0) 0 [] :=
  World.ownsRow_made w #[] 0 hb (Nat.zero_le _) rfl
theorem own_slice {base n : Nat} {e : TypeId} {v : Value} {xs : List Value} {w : World} (h : w.ownsRow base e 1 v n xs) : ∃ A c, v = .slice A n c := by
  rcases h.2 with ⟨rfl, rfl⟩ | ⟨g, cap, cur, rfl, _⟩
  · exact ⟨_, _, rfl⟩
  · exact ⟨_, _, rfl⟩
end Go.Proofs.Ytamgekijihpgkaa

/- One element appended to a slice of the call's own, beside other slices of the call's own. -/
namespace Go.Proofs.Ytamgekijihpgkaa
open Go.RowKit

/-- Two slices that have no block in common. -/
def Apart (u v : Value) : Prop := ∀ k, u.ownBlock = some k → v.ownBlock ≠ some k
theorem Apart.symm {u v : Value} (h : Apart u v) : Apart v u := fun k hk hu => h k hu hk

theorem append_place {P : Program} (w : World) (base : Nat) (t ty e : TypeId) (i : TypeInfo) (z : Value) (ht : P.underlying t = some (.slice e)) (hi : P.info? e = some i) (hz : i.zero = some z)
    (v : Value) (n : Nat) (xs : List Value) (hown : w.ownsRow base e i.size v n xs)
    (a : Addr) (m c : Nat) (news : List Value) (hl : news.length = m * i.size) (hnews : ∀ j u, news[j]? = some u → w.cell? (a.add j) = some u) (h1 : ∀ u ∈ news, u.oneCell' = true)
    (h63 : n + m ≤ maxLen) (hbytes : (n + m) * i.bytes ≤ 140737488355328) (hm : 0 < m)
    (v' : Value) (w' : World) (hr : (Builtin.append_ #[t, t] ty #[v, .slice (some a) m c]).run P w = .ok v' w') :
    v'.ownBlock = v.ownBlock ∨ v'.ownBlock = some w.heap.size := by
  have hs : n + m ≤ 9223372036854775807 := by simp only [maxLen] at h63; omega
  rcases hown.2 with ⟨rfl, rfl⟩ | ⟨g, cap, cur, rfl, hbg, hg, hnc, hcm, hcs, htake⟩
  · rw [run_append_nil (P := P) w t ty e i z ht hi hz a m c news hl hnews hm (by omega) (by rw [Nat.zero_add] at hbytes; omega)] at hr
    cases hr
    exact .inr rfl
  · by_cases hroom : n + m ≤ cap
    · rw [run_append_room (P := P) w t ty e i ht hi g n cap cur hg a m c news hl hnews h1 hroom (by rw [hl, hcs, ← Nat.add_mul]; exact Nat.mul_le_mul_right _ hroom)] at hr
      cases hr
      exact .inl rfl
    · rw [run_append_grow (P := P) w t ty e i z ht hi hz ⟨g, 0, none⟩ n cap xs hown.1 (hown.cells rfl) a m c news hl hnews (by omega) (by omega) (growslice_fits (by omega) hbytes)] at hr
      cases hr
      exact .inr rfl

/-- append(v, u), u just laid in a block of its own; the slices apart from v stay, apart from the new one. -/
theorem wpList_push2 {P : Program} {w : World} {u : Value} {tu : TypeId} {ops : Array Oper} {rest : List Oper} {o : Oper} {a : Act} {Q : Exit → Act → World → Prop} (hgd : o.guard = none) (s x : Operand) (t : TypeId)
    (ho : o.op = .call { callee := .builtin .append, args := #[s, x], argTypes := #[t, t] })
    (base : Nat) (e : TypeId) (i : TypeInfo) (z : Value) (bytes : Nat) (ht : P.underlying t = some (.slice e)) (hi : P.info? e = some i) (hz : i.zero = some z)
    (hsize : i.size = 1) (hby : i.bytes = bytes) (hzs : z.cells.size = 1)
    (v : Value) (n : Nat) (xs : List Value) (hs : a.eval s = v) (hown : w.ownsRow base e 1 v n xs)
    (c : Nat) (hx : a.eval x = .slice (some ⟨w.heap.size, 0, none⟩) 1 c) (h1 : u.oneCell' = true)
    (h63 : n + 1 ≤ maxLen) (hbytes : (n + 1) * bytes ≤ 140737488355328) (hbase : base ≤ w.heap.size)
    (h : ∀ v' w', w'.ownsRow base e 1 v' (n + 1) (xs ++ [u]) → Below base w w' →
      (∀ y e' m ys, w.ownsRow base e' 1 y m ys → Apart y v → w'.ownsRow base e' 1 y m ys ∧ Apart y v') → wpList P ops Q rest (a.put o.dst v') w') : wpList P ops Q (o :: rest) a (w.alloc (.cells #[u] tu)) := by
  have hb1 : Below base w (w.alloc (.cells #[u] tu)) := (Below.refl _ _).alloc hbase _
  have hnews : ∀ j y, ([u] : List Value)[j]? = some y → (w.alloc (.cells #[u] tu)).cell? ((⟨w.heap.size, 0, none⟩ : Addr).add j) = some y := by
    intro j y hj
    match j, hj with
    | 0, hj =>
      obtain rfl : u = y := by simpa using hj
      unfold World.cell?
      rw [Addr.add_zero', heap_alloc_new]
      rfl
    | j + 1, hj => simp at hj
  have h1' : ∀ y ∈ ([u] : List Value), y.oneCell' = true := by
    intro y hy
    obtain rfl : y = u := by simpa using hy
    exact h1
  have hbase1 := Nat.le_trans hbase hb1.size
  obtain ⟨v', w', hr, h2, h3, _⟩ := run_append_own (P := P) (w.alloc (.cells #[u] tu)) base t o.type e i z 1 bytes ht hi hz hsize hby hzs (by decide) v n xs (hown.alloc _) ⟨w.heap.size, 0, none⟩ 1 c [u] rfl hnews h1' h63 hbytes hbase1
  have hpl := append_place (w.alloc (.cells #[u] tu)) base t o.type e i z ht hi hz v n xs (by rw [hsize]; exact hown.alloc _) ⟨w.heap.size, 0, none⟩ 1 c [u] (by rw [hsize]; rfl) hnews h1' h63 (by rw [hby]; exact hbytes) (by decide) v' w' hr
  have hgo := h v' w' h2 (hb1.trans (own_below (hown.alloc _) h3 rfl hbase1)) (by
    intro y e' m ys hy hap
    have hne : y.ownBlock = none ∨ y.ownBlock ≠ v.ownBlock := by
      cases hyb : y.ownBlock with
      | none => exact .inl rfl
      | some k => exact .inr fun h => hap k hyb h.symm
    refine ⟨(hy.alloc _).kept h3 hne, fun k hk hv => ?_⟩
    rcases hpl with hp | hp
    · exact hap k hk (hp ▸ hv)
    · rw [hp] at hv
      have := (hy.lt k hk).2
      have h4 := size_alloc_lt w (.cells #[u] tu)
      have : (w.alloc (.cells #[u] tu)).heap.size = k := by simpa using hv
      omega)
  refine wpList_plain hgd fun _ hK => ?_
  unfold Oper.wp execOp
  simp only [ho, resolve, invoke, builtin, Sem.run_bind, Sem.run_pure, Result.andThen_ok, List.map_toArray, List.map_cons, List.map_nil, hs, hx, hr]
  exact hK _ _ hgo
end Go.Proofs.Ytamgekijihpgkaa

/- One element appended to a slice of the call's own; what else lies in memory stays. -/
namespace Go.Proofs.Ytamgekijihpgkaa
open Go.RowKit

theorem wpList_pushK {P : Program} {w : World} {u : Value} {tu : TypeId} {ops : Array Oper} {rest : List Oper} {o : Oper} {a : Act} {Q : Exit → Act → World → Prop} (hgd : o.guard = none) (s x : Operand) (t : TypeId)
    (ho : o.op = .call { callee := .builtin .append, args := #[s, x], argTypes := #[t, t] })
    (base : Nat) (e : TypeId) (i : TypeInfo) (z : Value) (bytes : Nat) (ht : P.underlying t = some (.slice e)) (hi : P.info? e = some i) (hz : i.zero = some z)
    (hsize : i.size = 1) (hby : i.bytes = bytes) (hzs : z.cells.size = 1)
    (v : Value) (n : Nat) (xs : List Value) (hs : a.eval s = v) (hown : w.ownsRow base e 1 v n xs)
    (c : Nat) (hx : a.eval x = .slice (some ⟨w.heap.size, 0, none⟩) 1 c) (h1 : u.oneCell' = true)
    (h63 : n + 1 ≤ maxLen) (hbytes : (n + 1) * bytes ≤ 140737488355328) (hbase : base ≤ w.heap.size)
    (h : ∀ v' w', w'.ownsRow base e 1 v' (n + 1) (xs ++ [u]) → Keep (fun k => v.ownBlock = some k) w w' →
      (∀ g, v'.ownBlock = some g → v.ownBlock = some g ∨ w.heap.size < g) → wpList P ops Q rest (a.put o.dst v') w') : wpList P ops Q (o :: rest) a (w.alloc (.cells #[u] tu)) := by
  have hb1 : Below w.heap.size w (w.alloc (.cells #[u] tu)) := (Below.refl _ _).alloc (Nat.le_refl _) _
  have hnews : ∀ j y, ([u] : List Value)[j]? = some y → (w.alloc (.cells #[u] tu)).cell? ((⟨w.heap.size, 0, none⟩ : Addr).add j) = some y := by
    intro j y hj
    match j, hj with
    | 0, hj =>
      obtain rfl : u = y := by simpa using hj
      unfold World.cell?
      rw [Addr.add_zero', heap_alloc_new]
      rfl
    | j + 1, hj => simp at hj
  have h1' : ∀ y ∈ ([u] : List Value), y.oneCell' = true := by
    intro y hy
    obtain rfl : y = u := by simpa using hy
    exact h1
  have hz1 : (w.alloc (.cells #[u] tu)).heap.size = w.heap.size + 1 := World.size_alloc _ _
  have hbase1 : base ≤ (w.alloc (.cells #[u] tu)).heap.size := by omega
  obtain ⟨v', w', hr, h2, h3, _⟩ := run_append_own (P := P) (w.alloc (.cells #[u] tu)) base t o.type e i z 1 bytes ht hi hz hsize hby hzs (by decide) v n xs (hown.alloc _) ⟨w.heap.size, 0, none⟩ 1 c [u] rfl hnews h1' h63 hbytes hbase1
  have hpl := append_place (w.alloc (.cells #[u] tu)) base t o.type e i z ht hi hz v n xs (by rw [hsize]; exact hown.alloc _) ⟨w.heap.size, 0, none⟩ 1 c [u] (by rw [hsize]; rfl) hnews h1' h63 (by rw [hby]; exact hbytes) (by decide) v' w' hr
  have hgo := h v' w' h2 (by
    have hk1 : Keep (fun k => v.ownBlock = some k) w (w.alloc (.cells #[u] tu)) := Keep.of_below hb1
    refine hk1.trans ⟨h3.os, h3.tape, h3.output, h3.size, fun k hk hs => h3.block k hk fun h => hs h.symm⟩) (by
    intro g hg
    rcases hpl with hp | hp
    · exact .inl (hp ▸ hg)
    · rw [hp] at hg
      right
      have : (w.alloc (.cells #[u] tu)).heap.size = g := by simpa using hg
      omega)
  refine wpList_plain hgd fun _ hK => ?_
  unfold Oper.wp execOp
  simp only [ho, resolve, invoke, builtin, Sem.run_bind, Sem.run_pure, Result.andThen_ok, List.map_toArray, List.map_cons, List.map_nil, hs, hx, hr]
  exact hK _ _ hgo
end Go.Proofs.Ytamgekijihpgkaa
