/- copy of elements of several cells; rules put in the midst of a row. -/
import Derived.Test.YtfblpibioegmkaaPD
import Derived.Laws.CopyOwn
import Derived.ArgAppend
namespace Go.Proofs.Ytfblpibioegmkaa
open Go.RowKit

theorem run_copyZ {P : Program} (w : World) (dT sT ty elem : TypeId) (i : TypeInfo) (size k g o dLen dCap : Nat) (a : Addr) (sLen sCap : Nat) (cur : Array Value) (t : TypeId) (cs : List Value)
    (hu : P.underlying dT = some (.slice elem)) (hi : P.info? elem = some i) (hs : i.size = size)
    (hg : w.heap[g]? = some (.cells cur t (0, 0))) (hk : Nat.min sLen dLen = k) (hn : cs.length = k * size)
    (hsrc : ∀ j v, cs[j]? = some v → w.cell? (a.add j) = some v) (hfit : o + cs.length ≤ cur.size) (h1 : ∀ v ∈ cs, v.oneCell' = true) :
    (Builtin.copy_ #[dT, sT] ty #[.slice (some ⟨g, o, none⟩) dLen dCap, .slice (some a) sLen sCap]).run P w =
      .ok (goInt k) (w.setRow g (cur.toList.take o ++ cs ++ cur.toList.drop (o + cs.length)).toArray) := by
  have hl := run_firstCells_some (P := P) w size k a sLen sCap cs hn hsrc
  have hst := run_storeCells_at P g o t cs 0 cur w hg (by simpa using hfit) h1
  simp only [Nat.add_zero] at hst
  simp [Builtin.copy_, run_underlying hu, Builtin.lenOf, sizeOf, typeInfo, hi, hs, hk, hl, hst]
theorem wpList_copyZ {P : Program} {w : World} {ops : Array Oper} {rest : List Oper} {o : Oper} {a : Act} {Q : Exit → Act → World → Prop} (hgd : o.guard = none) (d s : Operand) (dT sT : TypeId)
    (ho : o.op = .call { callee := .builtin .copy, args := #[d, s], argTypes := #[dT, sT] }) (elem : TypeId) (i : TypeInfo) (size k : Nat) (hu : P.underlying dT = some (.slice elem)) (hi : P.info? elem = some i) (hsz : i.size = size)
    (g off dLen dCap sLen sCap : Nat) (ad : Addr) (hd : a.eval d = .slice (some ⟨g, off, none⟩) dLen dCap) (hs : a.eval s = .slice (some ad) sLen sCap)
    (cur : List Value) (t : TypeId) (hg : w.heap[g]? = some (.cells cur.toArray t (0, 0))) (hk : Nat.min sLen dLen = k) (cs : List Value) (hn : cs.length = k * size)
    (hsrc : ∀ j v, cs[j]? = some v → w.cell? (ad.add j) = some v)
    (hfit : off + cs.length ≤ cur.length) (h1 : ∀ v ∈ cs, v.oneCell' = true) (B : Nat) (w0 : World) (hb : Below B w0 w) (hBg : B ≤ g)
    (h : ∀ w', Hid (w'.heap[g]? = some (.cells (splice cur off cs).toArray t (0, 0))) → Below B w0 w' → Hid (w' = w.setRow g (splice cur off cs).toArray) → wpList P ops Q rest (a.put o.dst (goInt k)) w') :
    wpList P ops Q (o :: rest) a w := by
  refine wpList_plain hgd fun K hK => ?_
  have hrun := run_copyZ (P := P) w dT sT o.type elem i size k g off dLen dCap ad sLen sCap cur.toArray t cs hu hi hsz hg hk hn hsrc (by simpa using hfit) h1
  unfold Oper.wp
  simp [execOp, ho, resolve, invoke, builtin, hd, hs, hrun, Result.andThen]
  exact hK _ _ (h _ (show _ = _ by simpa [splice] using setRow_heap w g _ _ t _ hg) (below_setRow hb hBg _) (Lib.hid (by simp [splice])))
theorem step_copyZ {P : Program} {ops : Array Oper} {o : Oper} {a : Act} {w : World} {K : Act → World → Prop} {Q : Exit → Act → World → Prop} {E : Prop} (hgd : o.guard = none) (d s : Operand) (dT sT : TypeId)
    (ho : o.op = .call { callee := .builtin .copy, args := #[d, s], argTypes := #[dT, sT] }) (elem : TypeId) (i : TypeInfo) (size k : Nat) (hu : P.underlying dT = some (.slice elem)) (hi : P.info? elem = some i) (hsz : i.size = size)
    (g off dLen dCap sLen sCap : Nat) (ad : Addr) (hd : a.eval d = .slice (some ⟨g, off, none⟩) dLen dCap) (hs : a.eval s = .slice (some ad) sLen sCap)
    (cur : List Value) (t : TypeId) (hg : w.heap[g]? = some (.cells cur.toArray t (0, 0))) (hk : Nat.min sLen dLen = k) (cs : List Value) (hn : cs.length = k * size)
    (hsrc : ∀ j v, cs[j]? = some v → w.cell? (ad.add j) = some v)
    (hfit : off + cs.length ≤ cur.length) (h1 : ∀ v ∈ cs, v.oneCell' = true) (B : Nat) (w0 : World) (hb : Below B w0 w) (hBg : B ≤ g)
    (h : ∀ w', Hid (w'.heap[g]? = some (.cells (splice cur off cs).toArray t (0, 0))) → Below B w0 w' → Hid (w' = w.setRow g (splice cur off cs).toArray) → K (a.put o.dst (goInt k)) w') :
    if Region.wanted o (yielded ops a.tmps) = true then Oper.wp P o a w K Q else E := by
  have hw : Region.wanted o (yielded ops a.tmps) = true := by simp [Region.wanted, hgd]
  rw [if_pos hw]
  have hrun := run_copyZ (P := P) w dT sT o.type elem i size k g off dLen dCap ad sLen sCap cur.toArray t cs hu hi hsz hg hk hn hsrc (by simpa using hfit) h1
  unfold Oper.wp
  simp [execOp, ho, resolve, invoke, builtin, hd, hs, hrun, Result.andThen]
  exact h _ (show _ = _ by simpa [splice] using setRow_heap w g _ _ t _ hg) (below_setRow hb hBg _) (Lib.hid (by simp [splice]))
/-- An own row's block, whole. -/
theorem own_block {w : World} {B e size n g cap : Nat} {xs : List Value} (h : w.ownsRow B e size (.slice (some ⟨g, 0, none⟩) n cap) n xs) :
    ∃ cur : List Value, w.heap[g]? = some (.cells cur.toArray e (0, 0)) ∧ B ≤ g ∧ g < w.heap.size ∧ n ≤ cap ∧ cap ≤ maxLen ∧ cur.length = cap * size ∧ cur.take (n * size) = xs := by
  rcases h.2 with ⟨h', _⟩ | ⟨g', cap', cur, h', hb, hg, hnc, hcm, hcs, htake⟩
  · simp at h'
  · simp only [Value.slice.injEq, Option.some.injEq, Addr.mk.injEq, and_true, true_and] at h'
    obtain ⟨rfl, rfl⟩ := h'
    refine ⟨cur.toList, by simpa using hg, hb, (Array.getElem?_eq_some_iff.1 hg).1, hnc, hcm, by simpa using hcs, htake⟩
/-- And back. -/
theorem own_of_block {w : World} {B e size n g cap : Nat} {cur xs : List Value} (hg : w.heap[g]? = some (.cells cur.toArray e (0, 0))) (hb : B ≤ g) (hnc : n ≤ cap) (hcm : cap ≤ maxLen) (hcs : cur.length = cap * size) (hx : cur.take (n * size) = xs) :
    w.ownsRow B e size (.slice (some ⟨g, 0, none⟩) n cap) n xs := by
  have hl : n * size ≤ cap * size := Nat.mul_le_mul_right _ hnc
  refine ⟨?_, .inr ⟨g, cap, cur.toArray, rfl, hb, hg, hnc, hcm, by simpa using hcs, by simpa using hx⟩⟩
  rw [← hx, List.length_take]
  omega
theorem block_cells {w : World} {g e : Nat} {cur : List Value} (hg : w.heap[g]? = some (.cells cur.toArray e (0, 0))) (o : Nat) {cs : List Value} (h : ∀ j u, cs[j]? = some u → cur[o + j]? = some u) : ∀ j u, cs[j]? = some u → w.cell? ((⟨g, o, none⟩ : Addr).add j) = some u := by
  intro j u hj
  have ea : (⟨g, o, none⟩ : Addr).add j = ⟨g, o + j, none⟩ := by
    unfold Addr.add
    split
    · rename_i h; rw [h]; rfl
    · rfl
  rw [ea, cell_of_row w g (o + j) cur.toArray e (0, 0) hg]
  simpa using h j u hj
/-- A rule in the midst: what was behind moves on by one, then the rule is laid in. -/
theorem splice_mid (cur xs rr : List Value) (i n : Nat) (hx : cur.take (n * 2) = xs) (hr : rr.length = 2) (hin : i ≤ n) (hl : (n + 1) * 2 ≤ cur.length) :
    (splice (splice cur ((i + 1) * 2) (xs.drop (i * 2))) (i * 2) rr).take ((n + 1) * 2) = xs.take (i * 2) ++ (rr ++ xs.drop (i * 2)) := by
  subst hx
  unfold splice
  have e1 : (cur.take (n * 2)).length = n * 2 := by rw [List.length_take]; omega
  apply List.ext_getElem?
  intro j
  simp only [List.getElem?_take, List.getElem?_append, List.length_take, List.length_drop, List.getElem?_drop, List.length_append, hr]
  repeat' split
  all_goals first
    | rfl
    | (exfalso; omega)
    | (congr 1; omega)
    | (rw [List.getElem?_eq_none (by omega)])
    | skip
theorem splice_mid2 (zs rr ys : List Value) (i n : Nat) (hz : zs.length = i * 2) (hr : rr.length = 2) (hy : ys.length = (n - i) * 2) (hin : i ≤ n) (cur : List Value) (hl : (n + 1) * 2 ≤ cur.length) (hc : cur.take (i * 2) = zs) :
    (splice (splice cur (i * 2) rr) ((i + 1) * 2) ys).take ((n + 1) * 2) = zs ++ (rr ++ ys) := by
  subst hc
  unfold splice
  apply List.ext_getElem?
  intro j
  simp only [List.getElem?_take, List.getElem?_append, List.length_take, List.length_drop, List.getElem?_drop, List.length_append, hr, hy]
  repeat' split
  all_goals first
    | rfl
    | (exfalso; omega)
    | (congr 1; omega)
    | (rw [List.getElem?_eq_none (by omega)])
    | skip
end Go.Proofs.Ytfblpibioegmkaa
