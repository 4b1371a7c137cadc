/- One element appended to a slice of the call's own; what else lies in memory stays. -/
import Derived.Test.YtdodmfojbbmbdaaPush2
namespace Go.Proofs.Ytdodmfojbbmbdaa
open Go.RowKit

theorem wpList_pushK {P : Program} {w : World} {u : Value} {tu : TypeId} {ops : Array Oper} {rest : List Oper} {o : Oper} {a : Act} {Q : Exit → Act → World → Prop} (hgd : o.guard = none) (s x : Operand) (t : TypeId)
    (ho : o.op = .call { callee := .builtin .append, args := #[s, x], argTypes := #[t, t] })
    (base : Nat) (e : TypeId) (i : TypeInfo) (z : Value) (bytes : Nat) (ht : P.underlying t = some (.slice e)) (hi : P.info? e = some i) (hz : i.zero = some z)
    (hsize : i.size = 1) (hby : i.bytes = bytes) (hzs : z.cells.size = 1)
    (v : Value) (n : Nat) (xs : List Value) (hs : a.eval s = v) (hown : w.ownsRow base e 1 v n xs)
    (c : Nat) (hx : a.eval x = .slice (some ⟨w.heap.size, 0, none⟩) 1 c) (h1 : u.oneCell' = true)
    (h63 : n + 1 ≤ maxLen) (hbytes : (n + 1) * bytes ≤ 140737488355328) (hbase : base ≤ w.heap.size)
    (h : ∀ v' w', w'.ownsRow base e 1 v' (n + 1) (xs ++ [u]) → Keep (fun k => v.ownBlock = some k) w w' →
      (∀ g, v'.ownBlock = some g → v.ownBlock = some g ∨ w.heap.size < g) → wpList P ops Q rest (a.put o.dst v') w') : wpList P ops Q (o :: rest) a (w.alloc (.cells #[u] tu)) := by
  have hb1 : Below w.heap.size w (w.alloc (.cells #[u] tu)) := (Below.refl _ _).alloc (Nat.le_refl _) _
  have hnews : ∀ j y, ([u] : List Value)[j]? = some y → (w.alloc (.cells #[u] tu)).cell? ((⟨w.heap.size, 0, none⟩ : Addr).add j) = some y := by
    intro j y hj
    match j, hj with
    | 0, hj =>
      obtain rfl : u = y := by simpa using hj
      unfold World.cell?
      rw [Addr.add_zero', heap_alloc_new]
      rfl
    | j + 1, hj => simp at hj
  have h1' : ∀ y ∈ ([u] : List Value), y.oneCell' = true := by
    intro y hy
    obtain rfl : y = u := by simpa using hy
    exact h1
  have hz1 : (w.alloc (.cells #[u] tu)).heap.size = w.heap.size + 1 := World.size_alloc _ _
  have hbase1 : base ≤ (w.alloc (.cells #[u] tu)).heap.size := by omega
  obtain ⟨v', w', hr, h2, h3, _⟩ := run_append_own (P := P) (w.alloc (.cells #[u] tu)) base t o.type e i z 1 bytes ht hi hz hsize hby hzs (by decide) v n xs (hown.alloc _) ⟨w.heap.size, 0, none⟩ 1 c [u] rfl hnews h1' h63 hbytes hbase1
  have hpl := append_place (w.alloc (.cells #[u] tu)) base t o.type e i z ht hi hz v n xs (by rw [hsize]; exact hown.alloc _) ⟨w.heap.size, 0, none⟩ 1 c [u] (by rw [hsize]; rfl) hnews h1' h63 (by rw [hby]; exact hbytes) (by decide) v' w' hr
  have hgo := h v' w' h2 (by
    have hk1 : Keep (fun k => v.ownBlock = some k) w (w.alloc (.cells #[u] tu)) := Keep.of_below hb1
    refine hk1.trans ⟨h3.os, h3.tape, h3.output, h3.size, fun k hk hs => h3.block k hk fun h => hs h.symm⟩) (by
    intro g hg
    rcases hpl with hp | hp
    · exact .inl (hp ▸ hg)
    · rw [hp] at hg
      right
      have : (w.alloc (.cells #[u] tu)).heap.size = g := by simpa using hg
      omega)
  refine wpList_plain hgd fun _ hK => ?_
  unfold Oper.wp execOp
  simp only [ho, resolve, invoke, builtin, Sem.run_bind, Sem.run_pure, Result.andThen_ok, List.map_toArray, List.map_cons, List.map_nil, hs, hx, hr]
  exact hK _ _ hgo
end Go.Proofs.Ytdodmfojbbmbdaa
