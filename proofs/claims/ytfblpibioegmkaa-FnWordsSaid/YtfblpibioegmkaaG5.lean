/- A word rewritten once, both sides. -/
import Derived.Test.YtfblpibioegmkaaG4
import Derived.Test.YtfblpibioegmkaaBld
namespace Go.Proofs.Ytfblpibioegmkaa
open Go.RowKit

/-- The text of the i-th letter. -/
def lett (t : ByteArray) (i : Nat) : ByteArray := t.extract i (i + 1)
/-- What the first k letters become. -/
def onceL (rs : List RuleV) (t : ByteArray) : Nat → List UInt8
  | 0 => []
  | k + 1 => onceL rs t k ++ (subT rs (lett t k)).data.toList
theorem onceL_mono (rs : List RuleV) (t : ByteArray) (k : Nat) : ∀ n, (onceL rs t k).length ≤ (onceL rs t (k + n)).length
  | 0 => Nat.le_refl _
  | n + 1 => by
    have := onceL_mono rs t k n
    rw [← Nat.add_assoc]
    show _ ≤ (onceL rs t (k + n) ++ _).length
    rw [List.length_append]
    omega
def onceB (rs : List RuleV) (t : ByteArray) : Bool := decide ((onceL rs t t.size).length ≤ 4000)
def onceV (rs : List RuleV) (t : ByteArray) : ByteArray := if onceB rs t then ⟨(onceL rs t t.size).toArray⟩ else ⟨#[]⟩
theorem onceB_no {rs : List RuleV} {t : ByteArray} {k : Nat} (hk : k ≤ t.size) (h : ¬ (onceL rs t k).length ≤ 4000) : onceB rs t = false := by
  have := onceL_mono rs t k (t.size - k)
  rw [show k + (t.size - k) = t.size by omega] at this
  unfold onceB
  exact decide_eq_false (by omega)
theorem lett_size {t : ByteArray} {i : Nat} (h : i < t.size) : (lett t i).size = 1 := by
  unfold lett
  rw [ByteArray.size_extract]
  omega
theorem subT_size {rs : List RuleV} {t : ByteArray} (hz : ∀ r ∈ rs, r.2.size ≤ 32) (ht : t.size ≤ 32) : (subT rs t).size ≤ 32 := by
  unfold subT
  split
  · exact hz _ (List.getElem_mem _)
  · exact ht
theorem own_keep {w w' : World} {base : Nat} {e : TypeId} {size : Nat} {v : Value} {n : Nat} {xs : List Value} {S : Nat → Prop} (h : w.ownsRow base e size v n xs) (k : Keep S w w') (hs : ∀ g, v.ownBlock = some g → ¬ S g) : w'.ownsRow base e size v n xs := by
  refine ⟨h.1, ?_⟩
  rcases h.2 with h2 | ⟨g, cap, cur, hv, hg, hh, hr⟩
  · exact .inl h2
  · refine .inr ⟨g, cap, cur, hv, hg, ?_, hr⟩
    have hlt : g < w.heap.size := by
      rcases Nat.lt_or_ge g w.heap.size with hlt | hge
      · exact hlt
      · rw [Array.getElem?_eq_none hge] at hh; cases hh
    rw [k.block g hlt (hs g (by rw [hv]; rfl))]
    exact hh
theorem bldAt_below {T e B b : Nat} {p : Value} {bs : List Value} {w w' : World} (h : Lib.BuilderAt T e B b p bs w) (k : Below w.heap.size w w') : Lib.BuilderAt T e B b p bs w' := by
  have hlt := h.lt
  obtain ⟨h1, v, h2, h3, h4⟩ := h
  exact ⟨h1, v, (k.block b hlt).trans h2, own_keep h3 (Keep.of_below (S := fun _ => False) k) (fun _ _ => id), h4⟩
theorem bld_below {T e B b : Nat} {bs : List Value} {w w' : World} (h : Lib.IsBuilder T e B b bs w) (k : Below w.heap.size w w') : Lib.IsBuilder T e B b bs w' :=
  h.imp (fun h => bldAt_below h k) (fun h => bldAt_below h k)
theorem bld_new (w : World) (T e : Nat) : Lib.IsBuilder T e w.heap.size w.heap.size [] (w.alloc (.cells #[.pointer none, .slice none 0 0] T)) :=
  .inl ⟨Nat.le_refl _, .slice none 0 0, heap_alloc_new w _, ⟨rfl, .inl ⟨rfl, rfl⟩⟩, by simp [Value.ownBlock]⟩
theorem strCells_eq (s : ByteArray) : Lib.strCells s = Lib.byteCells s.data.toList := rfl
theorem byteCells_append (a b : List UInt8) : Lib.byteCells (a ++ b) = Lib.byteCells a ++ Lib.byteCells b := by unfold Lib.byteCells; rw [List.map_append]
/-- A text in no memory, and a yes or no. -/
def TextB (w : World) (v : ByteArray) (ok : Bool) (e : Ending) (w' : World) : Prop := e = .returned (.tuple #[.string v, .bool ok]) ∧ Below w.heap.size w w'
set_option maxRecDepth 100000 in
set_option maxHeartbeats 2000000 in
theorem rewritten_any (s t : ByteArray) (A : Option Addr) (c : Nat) (rs : List RuleV) (w : World) (hA : RRd w A rs) (hn : rs.length ≤ maxLen) (ht : t.size ≤ 4000) (hz : ∀ r ∈ rs, r.2.size ≤ 32) :
    Calls Try.prog 65 #[.agg #[.string s, .slice A rs.length c], .string t] w (TextB w (onceV rs t) (onceB rs t)) := by
  obtain ⟨v0, hv0⟩ : ∃ v0, v0 = w.alloc (.cells #[.string s, .slice A rs.length c] 25) := ⟨_, rfl⟩
  have z0 : v0.heap.size = w.heap.size + 1 := by rw [hv0, World.size_alloc]
  have b1 : v0.cell? ⟨w.heap.size, 1, none⟩ = some (.slice A rs.length c) := by rw [hv0]; simp
  have K0 : Below w.heap.size w v0 := by rw [hv0]; exact below_alloc _ _
  have hA0 := hA.below K0
  go_enter Try.func65, Try.ntmps65
  go_wp2_with fail
  rw [← hv0]
  clear hv0
  go_loopw [13] (fun iv wr => ∃ k : Nat, k ≤ t.size ∧ iv = .int .i64 k ∧ Lib.IsBuilder 100 5 (w.heap.size + 1) (w.heap.size + 1) (Lib.byteCells (onceL rs t k)) wr ∧ (onceL rs t k).length ≤ 4000 ∧ Below v0.heap.size v0 wr) (fun iv _ => t.size - (intOf iv).toNat)
  case atStart => exact ⟨0, Nat.zero_le _, rfl, by have := bld_new v0 100 5; rw [z0] at this; exact this, Nat.zero_le _, below_alloc _ _⟩
  case round =>
    obtain ⟨k, hk, rfl, hB, hlen, hbel⟩ := hrel
    by_cases hlt : k < t.size
    · have hlt' : (k : Int) < t.size := by omega
      have hle' : (k : Int) + 1 ≤ t.size := by omega
      have c1 := (hbel.cell (p := ⟨w.heap.size, 1, none⟩) (by show w.heap.size < _; omega)).trans b1
      have zr : w.heap.size < wr.heap.size := by have := hbel.size; omega
      have hAr : RRd wr A rs := hA0.below ⟨hbel.os, hbel.tape, hbel.output, hbel.size, hbel.block⟩
      go_wp2_with fail
      refine (indexFunc_any (lett t k) A c wr.heap.size rs _ (hAr.below (below_alloc _ _)) hn (by simp [lett])).mono ?_
      rintro e w1 ⟨rfl, k1⟩
      have p1 : w1.cell? ⟨wr.heap.size, 0, none⟩ = some (.string (lett t k)) := (k1.cell (by simp)).trans (by simp [lett])
      have f1 : w1.frozen? ⟨wr.heap.size, 0, none⟩ = false := (k1.frozen (by simp)).trans (by simp)
      have y1 : wr.heap.size < w1.heap.size := by have := k1.size; simp at this; omega
      have K1 := Below.step (below_alloc wr _) k1
      have c1 := (K1.cell (p := ⟨w.heap.size, 1, none⟩) zr).trans c1
      have hAw := hAr.below K1
      clear k1
      have hone : onceL rs t (k + 1) = onceL rs t k ++ (subT rs (lett t k)).data.toList := rfl
      have hsz := subT_size (rs := rs) hz (t := lett t k) (by rw [lett_size hlt]; omega)
      by_cases hf : findR rs (lett t k) < rs.length
      · have hI : findI rs (lett t k) = (findR rs (lett t k) : Int) := by unfold findI; rw [if_pos hf]
        have hT : subT rs (lett t k) = rs[findR rs (lett t k)].2 := by unfold subT; rw [dif_pos hf]
        rw [hI]
        obtain ⟨b, o, rfl, hb, d0, d1⟩ := hAw (findR rs (lett t k)) rs[findR rs (lett t k)] (by simp [hf])
        rw [← hT] at d1
        have HO := Lib.hid hone
        generalize findR rs (lett t k) = j at hf d0 d1
        generalize subT rs (lett t k) = x at d1 hsz HO
        clear d0 hone hI hT
        have KW : Below wr.heap.size wr (w1.setCell ⟨wr.heap.size, 0, none⟩ (.string x)) := K1.setCell (Nat.le_refl _) _
        have hB1 := bld_below hB KW
        have hWs : w.heap.size + 1 ≤ (w1.setCell ⟨wr.heap.size, 0, none⟩ (.string x)).heap.size := by have := KW.size; have := hbel.size; omega
        go_wp2_with fail
        refine (writeString_any _ _ _ x _ hB1 (by rw [Lib.byteCells_length]; omega) hWs).mono ?_
        rintro e w3 ⟨rfl, hB3, k3⟩
        rw [strCells_eq, ← byteCells_append, ← HO.out] at hB3
        have KF : Below v0.heap.size v0 w3 := (hbel.trans (KW.mono hbel.size)).trans (by rw [z0]; exact k3)
        clear k3 KW hB1 hWs
        go_wp2_with fail
        refine (Try.Builder_Len _ _ _ _ (.inr hB3)).mono ?_
        rintro e w4 ⟨rfl, rfl⟩
        rw [Lib.byteCells_length]
        by_cases hle : (onceL rs t (k + 1)).length ≤ 4000
        · have hle' : ((onceL rs t (k + 1)).length : Int) ≤ 4000 := by omega
          go_wp2
          go_roundw
          case rel => exact ⟨k + 1, by omega, by go_num, .inr hB3, hle, KF⟩
          case measure => simp [intOf]; omega
        · have hle' : ¬ ((onceL rs t (k + 1)).length : Int) ≤ 4000 := by omega
          have hno := Lib.hid (onceB_no (rs := rs) (t := t) (show k + 1 ≤ t.size by omega) hle)
          go_wp2
          go_ret2
          exact ⟨by unfold onceV; rw [hno.out]; rfl, K0.trans (KF.mono K0.size)⟩
      · have hI : findI rs (lett t k) = -1 := by unfold findI; rw [if_neg hf]
        have hT : subT rs (lett t k) = lett t k := by unfold subT; rw [dif_neg hf]
        rw [hI]
        rw [hT] at hone hsz
        have HO := Lib.hid hone
        generalize lett t k = x at p1 hsz HO
        clear hone hI hT hf
        have KW : Below wr.heap.size wr (w1) := K1
        have hB1 := bld_below hB KW
        have hWs : w.heap.size + 1 ≤ (w1).heap.size := by have := KW.size; have := hbel.size; omega
        go_wp2_with fail
        refine (writeString_any _ _ _ x _ hB1 (by rw [Lib.byteCells_length]; omega) hWs).mono ?_
        rintro e w3 ⟨rfl, hB3, k3⟩
        rw [strCells_eq, ← byteCells_append, ← HO.out] at hB3
        have KF : Below v0.heap.size v0 w3 := (hbel.trans (KW.mono hbel.size)).trans (by rw [z0]; exact k3)
        clear k3 KW hB1 hWs
        go_wp2_with fail
        refine (Try.Builder_Len _ _ _ _ (.inr hB3)).mono ?_
        rintro e w4 ⟨rfl, rfl⟩
        rw [Lib.byteCells_length]
        by_cases hle : (onceL rs t (k + 1)).length ≤ 4000
        · have hle' : ((onceL rs t (k + 1)).length : Int) ≤ 4000 := by omega
          go_wp2
          go_roundw
          case rel => exact ⟨k + 1, by omega, by go_num, .inr hB3, hle, KF⟩
          case measure => simp [intOf]; omega
        · have hle' : ¬ ((onceL rs t (k + 1)).length : Int) ≤ 4000 := by omega
          have hno := Lib.hid (onceB_no (rs := rs) (t := t) (show k + 1 ≤ t.size by omega) hle)
          go_wp2
          go_ret2
          exact ⟨by unfold onceV; rw [hno.out]; rfl, K0.trans (KF.mono K0.size)⟩
    · obtain rfl : k = t.size := by omega
      have hyes : Hid (onceB rs t = true) := Lib.hid (by unfold onceB; exact decide_eq_true hlen)
      have hsz : w.heap.size + 1 ≤ wr.heap.size := by have := hbel.size; omega
      have hlt2 : ¬ (t.size : Int) < t.size := by omega
      go_wp2_with fail
      refine (Try.Builder_String_any _ _ _ _ hB hsz).mono ?_
      rintro e w3 ⟨rfl, k3⟩
      have KF : Below v0.heap.size v0 w3 := hbel.trans (by rw [z0]; exact k3)
      go_wp2
      go_ret2
      exact ⟨by unfold onceV; rw [hyes.out]; rfl, K0.trans (KF.mono K0.size)⟩
end Go.Proofs.Ytfblpibioegmkaa
