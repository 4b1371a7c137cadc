/- TurtleTwigs, the program's side. -/
import Derived.Test.YteolemgilajaeaaTp
import Derived.Deep.LoopGhost
namespace Go.Proofs.Yteolemgilajaeaa
open Go.RowKit Ieee

def ck (x : (Nat × Nat) × Nat) : (Nat × Nat) × Nat := ((cn .f32 x.1.1, cn .f32 x.1.2), cn .f32 x.2)
def kv (x : (Nat × Nat) × Nat) : List Value := [.complex .f32 x.1.1 x.1.2, .float .f32 x.2]
theorem info.tur : (Try.prog.info? 63).map (fun i => (i.zero, i.size, i.bytes)) = some (some (.agg #[.complex .f32 0 0, .float .f32 0]), 2, 12) := by kernel_rfl
theorem info_parts' {i : Option TypeInfo} {z : Value} {a b : Nat} (h : i.map (fun i => (i.zero, i.size, i.bytes)) = some (some z, a, b)) : ∃ j, i = some j ∧ j.zero = some z ∧ j.size = a ∧ j.bytes = b := by
  cases i with
  | none => cases h
  | some j =>
    simp at h
    exact ⟨j, rfl, h.1, h.2.1, h.2.2⟩
/-- What lies in memory at the head of a round. -/
structure TInv (w1 : World) (S : TS) (vk vb ve : Value) (pa pb t : Nat) (K : List ((Nat × Nat) × Nat)) (P Q : List (Nat × Nat)) (wr : World) : Prop where
  c0 : wr.cell? ⟨w1.heap.size, 0, none⟩ = some (.complex .f32 pa pb)
  f0 : wr.frozen? ⟨w1.heap.size, 0, none⟩ = false
  c1 : wr.cell? ⟨w1.heap.size, 1, none⟩ = some (.float .f32 t)
  f1 : wr.frozen? ⟨w1.heap.size, 1, none⟩ = false
  sat : S.at_ = (cn .f32 pa, cn .f32 pb)
  snow : S.now = cn .f32 t
  sst : S.st = K.map ck
  sfr : S.fr = cp P
  sto : S.to = cp Q
  ok : wr.ownsRow (w1.heap.size + 1) 63 2 vk K.length (K.flatMap kv)
  ob : wr.ownsRow (w1.heap.size + 1) 39 1 vb P.length (P.map cv)
  oe : wr.ownsRow (w1.heap.size + 1) 39 1 ve Q.length (Q.map cv)
  akb : Apart vk vb
  ake : Apart vk ve
  abe : Apart vb ve
  bel : Below w1.heap.size w1 wr
  gt : w1.heap.size < wr.heap.size
theorem cv1 (p : Nat × Nat) : cv p = .complex .f32 p.1 p.2 := rfl
section
variable {w1 wr w' : World} {S : TS} {vk vb ve : Value} {pa pb t : Nat} {K : List ((Nat × Nat) × Nat)} {P Q : List (Nat × Nat)}
theorem TInv.drewN (I : TInv w1 S vk vb ve pa pb t K P Q wr) (n : Nat) : TInv w1 S vk vb ve pa pb t K P Q (wr.drewN n) :=
  ⟨I.c0, I.f0, I.c1, I.f1, I.sat, I.snow, I.sst, I.sfr, I.sto, I.ok, I.ob, I.oe, I.akb, I.ake, I.abe, Keep.below I.bel ((Keep.refl (fun _ => False) wr).drewN n) (Nat.le_of_lt I.gt) (fun _ h => h.elim), I.gt⟩
theorem keep_ge {base : Nat} {v : Value} {e : TypeId} {size n : Nat} {xs : List Value} (h : wr.ownsRow base e size v n xs) : ∀ g, v.ownBlock = some g → base ≤ g := fun g hg => (h.lt g hg).1
theorem TInv.pushB {vb' : Value} (I : TInv w1 S vk vb ve pa pb t K P Q wr) (h : w'.ownsRow (w1.heap.size + 1) 39 1 vb' (P.length + 1) (P.map cv ++ [.complex .f32 pa pb])) (k : Keep (fun g => vb.ownBlock = some g) wr w') (hn : ∀ g, vb'.ownBlock = some g → vb.ownBlock = some g ∨ wr.heap.size < g) :
    TInv w1 ⟨S.at_, S.now, S.st, S.fr ++ [S.at_], S.to⟩ vk vb' ve pa pb t K (P ++ [(pa, pb)]) Q w' := by
  have hge := keep_ge I.ob
  have hs : ¬ vb.ownBlock = some w1.heap.size := fun e => by have := hge _ e; omega
  obtain ⟨ok', akb'⟩ := apart_push k hn I.ok I.akb
  obtain ⟨oe', aeb'⟩ := apart_push k hn I.oe I.abe.symm
  exact ⟨(k.cell (p := ⟨w1.heap.size, 0, none⟩) I.gt hs).trans I.c0, (World.frozen?_of_block (w := wr) (k.block _ I.gt hs)).trans I.f0, (k.cell (p := ⟨w1.heap.size, 1, none⟩) I.gt hs).trans I.c1, (World.frozen?_of_block (w := wr) (k.block _ I.gt hs)).trans I.f1,
    I.sat, I.snow, I.sst, by simp only [I.sfr, I.sat]; rw [cp_snoc], I.sto, ok', by rw [List.length_append, List.map_append]; exact h, oe', akb', I.ake, aeb'.symm,
    Keep.below I.bel k (Nat.le_of_lt I.gt) (fun g hg => by have := hge g hg; omega), Nat.lt_of_lt_of_le I.gt k.size⟩
theorem TInv.pushE {ve' : Value} (I : TInv w1 S vk vb ve pa pb t K P Q wr) (h : w'.ownsRow (w1.heap.size + 1) 39 1 ve' (Q.length + 1) (Q.map cv ++ [.complex .f32 pa pb])) (k : Keep (fun g => ve.ownBlock = some g) wr w') (hn : ∀ g, ve'.ownBlock = some g → ve.ownBlock = some g ∨ wr.heap.size < g) :
    TInv w1 ⟨S.at_, S.now, S.st, S.fr, S.to ++ [S.at_]⟩ vk vb ve' pa pb t K P (Q ++ [(pa, pb)]) w' := by
  have hge := keep_ge I.oe
  have hs : ¬ ve.ownBlock = some w1.heap.size := fun e => by have := hge _ e; omega
  obtain ⟨ok', ake'⟩ := apart_push k hn I.ok I.ake
  obtain ⟨ob', abe'⟩ := apart_push k hn I.ob I.abe
  exact ⟨(k.cell (p := ⟨w1.heap.size, 0, none⟩) I.gt hs).trans I.c0, (World.frozen?_of_block (w := wr) (k.block _ I.gt hs)).trans I.f0, (k.cell (p := ⟨w1.heap.size, 1, none⟩) I.gt hs).trans I.c1, (World.frozen?_of_block (w := wr) (k.block _ I.gt hs)).trans I.f1,
    I.sat, I.snow, I.sst, I.sfr, by simp only [I.sto, I.sat]; rw [cp_snoc], ok', ob', by rw [List.length_append, List.map_append]; exact h, I.akb, ake', abe',
    Keep.below I.bel k (Nat.le_of_lt I.gt) (fun g hg => by have := hge g hg; omega), Nat.lt_of_lt_of_le I.gt k.size⟩
theorem TInv.pushK {vk' : Value} (I : TInv w1 S vk vb ve pa pb t K P Q wr) (h : w'.ownsRow (w1.heap.size + 1) 63 2 vk' (K.length + 1) (K.flatMap kv ++ [.complex .f32 pa pb, .float .f32 t])) (k : Keep (fun g => vk.ownBlock = some g) wr w') (hn : ∀ g, vk'.ownBlock = some g → vk.ownBlock = some g ∨ wr.heap.size < g) :
    TInv w1 ⟨S.at_, S.now, S.st ++ [(S.at_, S.now)], S.fr, S.to⟩ vk' vb ve pa pb t (K ++ [((pa, pb), t)]) P Q w' := by
  have hge := keep_ge I.ok
  have hs : ¬ vk.ownBlock = some w1.heap.size := fun e => by have := hge _ e; omega
  obtain ⟨ob', abk'⟩ := apart_push k hn I.ob I.akb.symm
  obtain ⟨oe', aek'⟩ := apart_push k hn I.oe I.ake.symm
  exact ⟨(k.cell (p := ⟨w1.heap.size, 0, none⟩) I.gt hs).trans I.c0, (World.frozen?_of_block (w := wr) (k.block _ I.gt hs)).trans I.f0, (k.cell (p := ⟨w1.heap.size, 1, none⟩) I.gt hs).trans I.c1, (World.frozen?_of_block (w := wr) (k.block _ I.gt hs)).trans I.f1,
    I.sat, I.snow, by simp only [I.sst, I.sat, I.snow]; rw [List.map_append]; rfl, I.sfr, I.sto, by rw [List.length_append, List.flatMap_append]; exact h, ob', oe', abk'.symm, aek'.symm, I.abe,
    Keep.below I.bel k (Nat.le_of_lt I.gt) (fun g hg => by have := hge g hg; omega), Nat.lt_of_lt_of_le I.gt k.size⟩
theorem TInv.bel_set (I : TInv w1 S vk vb ve pa pb t K P Q wr) (o : Nat) (u : Value) : Below w1.heap.size w1 (wr.setCell ⟨w1.heap.size, o, none⟩ u) :=
  Keep.below I.bel ((Keep.refl (fun g => g = w1.heap.size) wr).setCell (p := ⟨w1.heap.size, o, none⟩) (.inl rfl) u) (Nat.le_of_lt I.gt) (fun g h => by have h : g = w1.heap.size := h; omega)
theorem TInv.setP (I : TInv w1 S vk vb ve pa pb t K P Q wr) (a b : Nat) : TInv w1 ⟨(cn .f32 a, cn .f32 b), S.now, S.st, S.fr, S.to⟩ vk vb ve a b t K P Q (wr.setCell ⟨w1.heap.size, 0, none⟩ (.complex .f32 a b)) :=
  ⟨World.cell?_setCell_same _ _ _ I.c0, by simpa using I.f0, (World.cell?_setCell_other _ _ _ _ (by simp)).trans I.c1, by simpa using I.f1, rfl, I.snow, I.sst, I.sfr, I.sto,
    ownsRow_setCell_below I.ok (Nat.lt_succ_self _) _, ownsRow_setCell_below I.ob (Nat.lt_succ_self _) _, ownsRow_setCell_below I.oe (Nat.lt_succ_self _) _, I.akb, I.ake, I.abe, I.bel_set _ _, by simpa [World.setCell] using I.gt⟩
theorem TInv.setT (I : TInv w1 S vk vb ve pa pb t K P Q wr) (a : Nat) : TInv w1 ⟨S.at_, cn .f32 a, S.st, S.fr, S.to⟩ vk vb ve pa pb a K P Q (wr.setCell ⟨w1.heap.size, 1, none⟩ (.float .f32 a)) :=
  ⟨(World.cell?_setCell_other _ _ _ _ (by simp)).trans I.c0, by simpa using I.f0, World.cell?_setCell_same _ _ _ I.c1, by simpa using I.f1, I.sat, rfl, I.sst, I.sfr, I.sto,
    ownsRow_setCell_below I.ok (Nat.lt_succ_self _) _, ownsRow_setCell_below I.ob (Nat.lt_succ_self _) _, ownsRow_setCell_below I.oe (Nat.lt_succ_self _) _, I.akb, I.ake, I.abe, I.bel_set _ _, by simpa [World.setCell] using I.gt⟩
end
theorem own_slice' {base n size : Nat} {e : TypeId} {v : Value} {xs : List Value} {w : World} (h : w.ownsRow base e size v n xs) : ∃ A c, v = .slice A n c := by
  rcases h.2 with ⟨rfl, rfl⟩ | ⟨g, cap, cur, rfl, _⟩
  · exact ⟨_, _, rfl⟩
  · exact ⟨_, _, rfl⟩
theorem add_any (a b c d : Nat) (w : World) : Calls Try.prog 47 #[.complex .f32 a b, .complex .f32 c d] w (CplR w (cadd (cn .f32 a, cn .f32 b) (cn .f32 c, cn .f32 d))) := by
  go_enter Try.func47, Try.ntmps47
  go_wp2
  go_ret
  exact ⟨_, _, _, rfl, by simp only [cn_fres]; rfl, by simp only [cn_fres]; rfl, rfl⟩
theorem scale_any (a b k : Nat) (w : World) : Calls Try.prog 48 #[.complex .f32 a b, .float .f32 k] w (CplR w (cscale (cn .f32 a, cn .f32 b) (cn .f32 k))) := by
  go_enter Try.func48, Try.ntmps48
  go_wp2
  go_ret
  exact ⟨_, _, _, rfl, by simp only [cn_fres]; rfl, by simp only [cn_fres]; rfl, rfl⟩
/-- A 64-bit word that was a 32-bit one. -/
theorem kd_wide (t : Nat) (w : World) : Kd (wres t w) := by
  unfold wres
  cases h : isN .f32 t
  · simp only [Bool.false_eq_true, if_false]
    have hn := isN_write .f64 (single.read t) h
    cases hd : single.read t with
    | nan s m => unfold isN at h; rw [show FloatKind.f32.format.read t = .nan s m from hd] at h; cases h
    | infinity s => exact .inf s (by show double.word s double.infRung = _; rw [inf64])
    | number s m e =>
      obtain ⟨r, hr, he⟩ := nearest_word double s m e
      have hx : double.write (.number s m e) = double.word s r := he
      rw [hx]
      rw [inf64] at hr
      rcases Nat.lt_or_eq_of_le hr with h' | h'
      · exact .num s r rfl h'
      · exact .inf s (by rw [h'])
  · simp only [if_true]
    exact .nan (nan_conv _ _ _)
end Go.Proofs.Yteolemgilajaeaa
