/- An element of several cells appended to a slice of the call's own (as in XTp). -/
import Derived.Test.YtdodmfojbbmbdaaPushK
namespace Go.Proofs.Ytdodmfojbbmbdaa
open Go.RowKit

theorem own_keepZ {w w' : World} {base : Nat} {e : TypeId} {size : Nat} {v : Value} {n : Nat} {xs : List Value} {S : Nat → Prop} (h : w.ownsRow base e size v n xs) (k : Keep S w w') (hs : ∀ g, v.ownBlock = some g → ¬ S g) : w'.ownsRow base e size v n xs := by
  refine ⟨h.1, ?_⟩
  rcases h.2 with h2 | ⟨g, cap, cur, hv, hg, hh, hr⟩
  · exact .inl h2
  · refine .inr ⟨g, cap, cur, hv, hg, ?_, hr⟩
    have hlt : g < w.heap.size := by
      rcases Nat.lt_or_ge g w.heap.size with hlt | hge
      · exact hlt
      · rw [Array.getElem?_eq_none hge] at hh; cases hh
    rw [k.block g hlt (hs g (by rw [hv]; rfl))]
    exact hh
/-- append(v, u), u of several cells, just laid in a block of its own. -/
theorem wpList_pushZ {P : Program} {w : World} {us : List Value} {tu : TypeId} {ops : Array Oper} {rest : List Oper} {o : Oper} {a : Act} {Q : Exit → Act → World → Prop} (hgd : o.guard = none) (s x : Operand) (t : TypeId)
    (ho : o.op = .call { callee := .builtin .append, args := #[s, x], argTypes := #[t, t] })
    (base : Nat) (e : TypeId) (i : TypeInfo) (z : Value) (bytes : Nat) (ht : P.underlying t = some (.slice e)) (hi : P.info? e = some i) (hz : i.zero = some z)
    (hsize : i.size = us.length) (hby : i.bytes = bytes) (hzs : z.cells.size = us.length) (hpos : 0 < us.length)
    (v : Value) (n : Nat) (xs : List Value) (hs : a.eval s = v) (hown : w.ownsRow base e us.length v n xs)
    (c : Nat) (hx : a.eval x = .slice (some ⟨w.heap.size, 0, none⟩) 1 c) (h1 : ∀ u ∈ us, u.oneCell' = true)
    (h63 : n + 1 ≤ maxLen) (hbytes : (n + 1) * bytes ≤ 140737488355328) (hbase : base ≤ w.heap.size)
    (h : ∀ v' w', w'.ownsRow base e us.length v' (n + 1) (xs ++ us) → Keep (fun k => v.ownBlock = some k) w w' →
      (∀ g, v'.ownBlock = some g → v.ownBlock = some g ∨ w.heap.size < g) → wpList P ops Q rest (a.put o.dst v') w') : wpList P ops Q (o :: rest) a (w.alloc (.cells us.toArray tu)) := by
  have hb1 : Below w.heap.size w (w.alloc (.cells us.toArray tu)) := (Below.refl _ _).alloc (Nat.le_refl _) _
  have hnews : ∀ j y, us[j]? = some y → (w.alloc (.cells us.toArray tu)).cell? ((⟨w.heap.size, 0, none⟩ : Addr).add j) = some y := by
    intro j y hj
    have ea : (⟨w.heap.size, 0, none⟩ : Addr).add j = ⟨w.heap.size, j, none⟩ := by
      unfold Addr.add
      split
      · rename_i h; rw [h]
      · simp
    rw [ea]
    unfold World.cell?
    rw [heap_alloc_new]
    simp [hj]
  have hz1 : (w.alloc (.cells us.toArray tu)).heap.size = w.heap.size + 1 := World.size_alloc _ _
  have hbase1 : base ≤ (w.alloc (.cells us.toArray tu)).heap.size := by omega
  obtain ⟨v', w', hr, h2, h3, _⟩ := run_append_own (P := P) (w.alloc (.cells us.toArray tu)) base t o.type e i z us.length bytes ht hi hz hsize hby hzs hpos v n xs (hown.alloc _) ⟨w.heap.size, 0, none⟩ 1 c us (by simp) hnews h1 h63 hbytes hbase1
  have hpl := append_place (w.alloc (.cells us.toArray tu)) base t o.type e i z ht hi hz v n xs (by rw [hsize]; exact hown.alloc _) ⟨w.heap.size, 0, none⟩ 1 c us (by rw [hsize]; simp) hnews h1 h63 (by rw [hby]; exact hbytes) (by decide) v' w' hr
  have hgo := h v' w' h2 (by
    have hk1 : Keep (fun k => v.ownBlock = some k) w (w.alloc (.cells us.toArray tu)) := Keep.of_below hb1
    refine hk1.trans ⟨h3.os, h3.tape, h3.output, h3.size, fun k hk hs => h3.block k hk fun h => hs h.symm⟩) (by
    intro g hg
    rcases hpl with hp | hp
    · exact .inl (hp ▸ hg)
    · rw [hp] at hg
      right
      have : (w.alloc (.cells us.toArray tu)).heap.size = g := by simpa using hg
      omega)
  refine wpList_plain hgd fun _ hK => ?_
  unfold Oper.wp execOp
  simp only [ho, resolve, invoke, builtin, Sem.run_bind, Sem.run_pure, Result.andThen_ok, List.map_toArray, List.map_cons, List.map_nil, hs, hx, hr]
  exact hK _ _ hgo
