/- TurtleTwigs, the reference's side: its small functions; four slices side by side. -/
import Derived.Test.YteolemgilajaeaaTi
namespace Go.Proofs.Yteolemgilajaeaa
open Go.RowKit Ieee

theorem run_carith' {P : Program} (w : World) (op : BinOp) (hop : op = .add ∨ op = .sub ∨ op = .mul ∨ op = .quo) (k : FloatKind) (x y : Nat) : (Op.Complex.arith op k x y).run P w = .ok (fres op k x y w) (w.drewN (fdr op k x y)) := by
  have h : (Op.floatArith op k x y).run P w = .ok (.float k (fres op k x y w)) (w.drewN (fdr op k x y)) := run_fsem w k x y op hop
  simp [Op.Complex.arith, h]
/-- The sum of two complex numbers, whatever they are. -/
@[go_sem] theorem run_cadd {P : Program} (w : World) (t : TypeId) (k : FloatKind) (a b c d : Nat) : (binOp .add t (.complex k a b) (.complex k c d)).run P w = .ok (.complex k (fres .add k a c w) (fres .add k b d (w.drewN (fdr .add k a c)))) ((w.drewN (fdr .add k a c)).drewN (fdr .add k b d)) := by
  simp [binOp, Op.complexOp, run_carith' _ .add (.inl rfl)]
def FlR (w : World) (x : Nat) (e : Ending) (w' : World) : Prop := ∃ r n, e = .returned (.float .f32 r) ∧ cn .f32 r = x ∧ w' = w.drewN n
theorem turned_any (b : Int) (now turn : Nat) (w : World) : Calls Try.prog 20 #[.int .u8 b, .float .f32 now, .float .f32 turn] w (FlR w (if b = 43 then fop .add .f32 (cn .f32 now) (cn .f32 turn) else if b = 45 then fop .sub .f32 (cn .f32 now) (cn .f32 turn) else cn .f32 now)) := by
  by_cases h : b = 43
  · subst h
    go_enter Try.func20, Try.ntmps20
    go_wp2
    go_ret
    exact ⟨_, _, rfl, cn_fres _ _ _ _ _, rfl⟩
  · by_cases h2 : b = 45
    · subst h2
      go_enter Try.func20, Try.ntmps20
      go_wp2
      go_ret
      exact ⟨_, _, rfl, cn_fres _ _ _ _ _, rfl⟩
    · go_enter Try.func20, Try.ntmps20
      go_wp2
      go_ret
      exact ⟨now, 0, rfl, rfl, rfl⟩
theorem moves_any (b : Int) (w : World) : Calls Try.prog 21 #[.int .u8 b] w fun e w' => e = .returned (.bool (decide (b = 70) || decide (b = 71))) ∧ w' = w := by
  by_cases h : b = 70
  · subst h
    go_enter Try.func21, Try.ntmps21
    go_wp2
    go_ret
    exact ⟨rfl, rfl⟩
  · by_cases h2 : b = 71
    · subst h2
      go_enter Try.func21, Try.ntmps21
      go_wp2
      go_ret
      exact ⟨rfl, rfl⟩
    · go_enter Try.func21, Try.ntmps21
      go_wp2
      go_ret
      exact ⟨ret_bool (by simp [h, h2]), rfl⟩
theorem l01Scale_any (a b k : Nat) (w : World) : Calls Try.prog 43 #[.complex .f32 a b, .float .f32 k] w (CplR w (cscale (cn .f32 a, cn .f32 b) (cn .f32 k))) := by
  go_enter Try.func43, Try.ntmps43
  go_wp2
  go_ret
  exact ⟨_, _, _, rfl, by simp only [cn_fres]; rfl, by simp only [cn_fres]; rfl, rfl⟩
theorem forward_any (a b t step : Nat) (w : World) : Calls Try.prog 22 #[.complex .f32 a b, .float .f32 t, .float .f32 step] w (CplR w (cadd (cn .f32 a, cn .f32 b) (cscale (phV (c64 (cn .f32 t))) (cn .f32 step)))) := by
  have hp : ∀ w, phV (wres t w) = phV (c64 (cn .f32 t)) := fun w => by rw [← phV_cn, cn_wres]
  have HH := Lib.hid hp
  clear hp
  go_enter Try.func22, Try.ntmps22
  go_wp2_with fail
  refine (l01Phasor_any _ (kd_wide _ _) _).mono ?_
  rintro e w1 ⟨a1, b1, n1, rfl, x1, y1, rfl⟩
  rw [HH.out] at x1 y1
  have X1 := Lib.hid x1
  have Y1 := Lib.hid y1
  clear x1 y1
  go_wp2_with fail
  refine (l01Scale_any _ _ _ _).mono ?_
  rintro e w2 ⟨a2, b2, n2, rfl, x2, y2, rfl⟩
  have X2 := Lib.hid x2
  have Y2 := Lib.hid y2
  clear x2 y2
  go_wp2
  go_ret
  exact ⟨_, _, _, rfl, by rw [cn_fres, X2.out, X1.out, Y1.out]; rfl, by rw [cn_fres, Y2.out, X1.out, Y1.out]; rfl, rfl⟩
/-- Points: finite, and not too many. -/
theorem l02Points_any (A : Option Addr) (c : Nat) (xs : List (Nat × Nat)) (w : World) (hA : CRd w A xs) (hn : xs.length ≤ maxLen) :
    Calls Try.prog 23 #[.slice A xs.length c] w fun e w' => e = .returned (.bool (decide (xs.length ≤ 256) && finCL xs)) ∧ ∃ n, w' = w.drewN n := by
  unfold maxLen at hn
  by_cases hle : xs.length ≤ 256
  · have HD : Hid ((decide (xs.length ≤ 256) && finCL xs) = finCL xs) := Lib.hid (by simp [hle])
    go_enter Try.func23, Try.ntmps23
    go_wp2
    go_loopw [3] (fun i wr => ∃ k m : Nat, k ≤ xs.length ∧ i = .int .i64 k ∧ wr = w.drewN m ∧ Hid (finCL (xs.take k) = true)) (fun i _ => xs.length - (intOf i).toNat)
    case atStart => exact ⟨0, 0, Nat.zero_le _, rfl, rfl, Lib.hid rfl⟩
    case round =>
      obtain ⟨k, m, hk, rfl, rfl, HF⟩ := hrel
      by_cases hlt : k < xs.length
      · obtain ⟨b, o, rfl, hb, hc⟩ := hA.at_ hlt
        cases hf : finC xs[k]
        · have HX := Lib.hid (finCL_bad hlt hf)
          go_wp2_with (go_at_call 44; refine (l01CFinite_any _ _ _).mono ?_; rintro e w' ⟨rfl, n', rfl⟩; rw [show finC (xs[k].1, xs[k].2) = finC xs[k] from rfl, hf])
          go_ret
          exact ⟨ret_bool (by rw [HD.out]; exact HX.out.symm), _, rfl⟩
        · have HX := Lib.hid (finCL_step hlt HF.out hf)
          go_wp2_with (go_at_call 44; refine (l01CFinite_any _ _ _).mono ?_; rintro e w' ⟨rfl, n', rfl⟩; rw [show finC (xs[k].1, xs[k].2) = finC xs[k] from rfl, hf])
          go_roundw
          case rel => exact ⟨k + 1, _, by omega, by go_num, rfl, HX⟩
          case measure => simp [intOf]; omega
      · go_wp2
        go_ret
        obtain rfl : k = xs.length := by omega
        have h := HF.out
        rw [List.take_length] at h
        exact ⟨ret_bool (by rw [HD.out, h]; simp; omega), _, rfl⟩
  · have HD : Hid ((decide (xs.length ≤ 256) && finCL xs) = false) := Lib.hid (by simp [hle])
    go_enter Try.func23, Try.ntmps23
    go_wp2
    go_loopw [3] (fun i wr => i = .int .i64 0 ∧ wr = w) (fun i _ => 0)
    case atStart => exact ⟨rfl, rfl⟩
    case round =>
      obtain ⟨rfl, rfl⟩ := hrel
      go_wp2
      all_goals
        go_ret
        exact ⟨ret_bool (by rw [HD.out]; simp; omega), 0, rfl⟩

/-- Four slices of the call's own, side by side. -/
structure SMem (w1 : World) (vf vt vp vu : Value) (P Q L : List (Nat × Nat)) (U : List Nat) (wr : World) : Prop where
  of : wr.ownsRow w1.heap.size 39 1 vf P.length (P.map cv)
  ot : wr.ownsRow w1.heap.size 39 1 vt Q.length (Q.map cv)
  op : wr.ownsRow w1.heap.size 39 1 vp L.length (L.map cv)
  ou : wr.ownsRow w1.heap.size 22 1 vu U.length (U.map fv)
  aft : Apart vf vt
  afp : Apart vf vp
  afu : Apart vf vu
  atp : Apart vt vp
  atu : Apart vt vu
  apu : Apart vp vu
  bel : Below w1.heap.size w1 wr
section
variable {w1 wr w' : World} {vf vt vp vu : Value} {P Q L : List (Nat × Nat)} {U : List Nat}
theorem SMem.drewN (M : SMem w1 vf vt vp vu P Q L U wr) (n : Nat) : SMem w1 vf vt vp vu P Q L U (wr.drewN n) :=
  ⟨M.of, M.ot, M.op, M.ou, M.aft, M.afp, M.afu, M.atp, M.atu, M.apu, ⟨M.bel.os, M.bel.tape, M.bel.output, M.bel.size, M.bel.block⟩⟩
theorem SMem.pushF {vf' : Value} {a b : Nat} (M : SMem w1 vf vt vp vu P Q L U wr) (h : w'.ownsRow w1.heap.size 39 1 vf' (P.length + 1) (P.map cv ++ [.complex .f32 a b])) (k : Keep (fun g => vf.ownBlock = some g) wr w') (hn : ∀ g, vf'.ownBlock = some g → vf.ownBlock = some g ∨ wr.heap.size < g) : SMem w1 vf' vt vp vu (P ++ [(a, b)]) Q L U w' := by
  have hge : ∀ g, vf.ownBlock = some g → w1.heap.size ≤ g := fun g hg => (M.of.lt g hg).1
  obtain ⟨ot, qt⟩ := apart_push k hn M.ot M.aft.symm
  obtain ⟨op, qp⟩ := apart_push k hn M.op M.afp.symm
  obtain ⟨ou, qu⟩ := apart_push k hn M.ou M.afu.symm
  exact ⟨(by rw [List.length_append, List.map_append]; exact h), ot, op, ou, qt.symm, qp.symm, qu.symm, M.atp, M.atu, M.apu, Keep.below M.bel k M.bel.size (fun g hg => hge g hg)⟩
theorem SMem.pushT {vt' : Value} {a b : Nat} (M : SMem w1 vf vt vp vu P Q L U wr) (h : w'.ownsRow w1.heap.size 39 1 vt' (Q.length + 1) (Q.map cv ++ [.complex .f32 a b])) (k : Keep (fun g => vt.ownBlock = some g) wr w') (hn : ∀ g, vt'.ownBlock = some g → vt.ownBlock = some g ∨ wr.heap.size < g) : SMem w1 vf vt' vp vu P (Q ++ [(a, b)]) L U w' := by
  have hge : ∀ g, vt.ownBlock = some g → w1.heap.size ≤ g := fun g hg => (M.ot.lt g hg).1
  obtain ⟨of, qf⟩ := apart_push k hn M.of M.aft
  obtain ⟨op, qp⟩ := apart_push k hn M.op M.atp.symm
  obtain ⟨ou, qu⟩ := apart_push k hn M.ou M.atu.symm
  exact ⟨of, (by rw [List.length_append, List.map_append]; exact h), op, ou, qf, M.afp, M.afu, qp.symm, qu.symm, M.apu, Keep.below M.bel k M.bel.size (fun g hg => hge g hg)⟩
theorem SMem.pushP {vp' : Value} {a b : Nat} (M : SMem w1 vf vt vp vu P Q L U wr) (h : w'.ownsRow w1.heap.size 39 1 vp' (L.length + 1) (L.map cv ++ [.complex .f32 a b])) (k : Keep (fun g => vp.ownBlock = some g) wr w') (hn : ∀ g, vp'.ownBlock = some g → vp.ownBlock = some g ∨ wr.heap.size < g) : SMem w1 vf vt vp' vu P Q (L ++ [(a, b)]) U w' := by
  have hge : ∀ g, vp.ownBlock = some g → w1.heap.size ≤ g := fun g hg => (M.op.lt g hg).1
  obtain ⟨of, qf⟩ := apart_push k hn M.of M.afp
  obtain ⟨ot, qt⟩ := apart_push k hn M.ot M.atp
  obtain ⟨ou, qu⟩ := apart_push k hn M.ou M.apu.symm
  exact ⟨of, ot, (by rw [List.length_append, List.map_append]; exact h), ou, M.aft, qf, M.afu, qt, M.atu, qu.symm, Keep.below M.bel k M.bel.size (fun g hg => hge g hg)⟩
theorem SMem.pushU {vu' : Value} {a : Nat} (M : SMem w1 vf vt vp vu P Q L U wr) (h : w'.ownsRow w1.heap.size 22 1 vu' (U.length + 1) (U.map fv ++ [.float .f32 a])) (k : Keep (fun g => vu.ownBlock = some g) wr w') (hn : ∀ g, vu'.ownBlock = some g → vu.ownBlock = some g ∨ wr.heap.size < g) : SMem w1 vf vt vp vu' P Q L (U ++ [a]) w' := by
  have hge : ∀ g, vu.ownBlock = some g → w1.heap.size ≤ g := fun g hg => (M.ou.lt g hg).1
  obtain ⟨of, qf⟩ := apart_push k hn M.of M.afu
  obtain ⟨ot, qt⟩ := apart_push k hn M.ot M.atu
  obtain ⟨op, qp⟩ := apart_push k hn M.op M.apu
  exact ⟨of, ot, op, (by rw [List.length_append, List.map_append]; exact h), M.aft, M.afp, qf, M.atp, qt, qp, Keep.below M.bel k M.bel.size (fun g hg => hge g hg)⟩
theorem SMem.popP {g c : Nat} {q : Nat × Nat} (M : SMem w1 vf vt (.slice (some ⟨g, 0, none⟩) (L.length + 1) c) vu P Q (L ++ [q]) U wr) : SMem w1 vf vt (.slice (some ⟨g, 0, none⟩) L.length c) vu P Q L U wr := by
  have ho := M.op
  rw [List.length_append, List.map_append] at ho
  exact ⟨M.of, M.ot, ownsRow_pop (by simp) ho, M.ou, M.aft, M.afp, M.afu, M.atp, M.atu, M.apu, M.bel⟩
theorem SMem.topP {A : Option Addr} {c : Nat} {q : Nat × Nat} (M : SMem w1 vf vt (.slice A (L.length + 1) c) vu P Q (L ++ [q]) U wr) : ∃ g, A = some ⟨g, 0, none⟩ ∧ L.length + 1 ≤ c ∧ wr.cell? ⟨g, L.length, none⟩ = some (cv q) := by
  have ho := M.op
  rw [List.length_append, List.map_append] at ho
  have e2 : [q].length = 1 := rfl
  rw [e2] at ho
  obtain ⟨b, o, h1, h2, h3⟩ := (Rd.of_own ho) L.length (cv q) (by rw [List.getElem?_append_right (by simp)]; simp)
  rcases ho.2 with ⟨hv, hn⟩ | ⟨g, cap, cur, hv, hg, hh, hc, _⟩
  · omega
  · injection hv with e1 e2 e3
    rw [e1] at h1
    injection h1 with h1; injection h1 with ha hb
    subst ha; subst hb
    rw [Nat.zero_add] at h3
    exact ⟨g, e1, by omega, h3⟩
theorem SMem.popU {g c : Nat} {q : Nat} (M : SMem w1 vf vt vp (.slice (some ⟨g, 0, none⟩) (U.length + 1) c) P Q L (U ++ [q]) wr) : SMem w1 vf vt vp (.slice (some ⟨g, 0, none⟩) U.length c) P Q L U wr := by
  have ho := M.ou
  rw [List.length_append, List.map_append] at ho
  exact ⟨M.of, M.ot, M.op, ownsRow_pop (by simp) ho, M.aft, M.afp, M.afu, M.atp, M.atu, M.apu, M.bel⟩
theorem SMem.topU {A : Option Addr} {c : Nat} {q : Nat} (M : SMem w1 vf vt vp (.slice A (U.length + 1) c) P Q L (U ++ [q]) wr) : ∃ g, A = some ⟨g, 0, none⟩ ∧ U.length + 1 ≤ c ∧ wr.cell? ⟨g, U.length, none⟩ = some (fv q) := by
  have ho := M.ou
  rw [List.length_append, List.map_append] at ho
  have e2 : [q].length = 1 := rfl
  rw [e2] at ho
  obtain ⟨b, o, h1, h2, h3⟩ := (Rd.of_own ho) U.length (fv q) (by rw [List.getElem?_append_right (by simp)]; simp)
  rcases ho.2 with ⟨hv, hn⟩ | ⟨g, cap, cur, hv, hg, hh, hc, _⟩
  · omega
  · injection hv with e1 e2 e3
    rw [e1] at h1
    injection h1 with h1; injection h1 with ha hb
    subst ha; subst hb
    rw [Nat.zero_add] at h3
    exact ⟨g, e1, by omega, h3⟩
end
theorem smem_start {w1 : World} : SMem w1 (.slice (some ⟨w1.heap.size, 0, none⟩) 0 0) (.slice (some ⟨w1.heap.size + 1, 0, none⟩) 0 0) (.slice (some ⟨w1.heap.size + 1 + 1, 0, none⟩) 0 0) (.slice (some ⟨w1.heap.size + 1 + 1 + 1, 0, none⟩) 0 0) [] [] [] [] ((((w1.alloc (.cells #[] 39)).alloc (.cells #[] 39)).alloc (.cells #[] 39)).alloc (.cells #[] 22)) := by
  have z1 : (w1.alloc (.cells #[] 39)).heap.size = w1.heap.size + 1 := World.size_alloc _ _
  have z2 : ((w1.alloc (.cells #[] 39)).alloc (.cells #[] 39)).heap.size = w1.heap.size + 1 + 1 := by rw [World.size_alloc, z1]
  have z3 : (((w1.alloc (.cells #[] 39)).alloc (.cells #[] 39)).alloc (.cells #[] 39)).heap.size = w1.heap.size + 1 + 1 + 1 := by rw [World.size_alloc, z2]
  have o1 := own_made0 w1 w1.heap.size 39 (Nat.le_refl _)
  have o2 := own_made0 (w1.alloc (.cells #[] 39)) w1.heap.size 39 (by omega)
  have o3 := own_made0 ((w1.alloc (.cells #[] 39)).alloc (.cells #[] 39)) w1.heap.size 39 (by omega)
  have o4 := own_made0 (((w1.alloc (.cells #[] 39)).alloc (.cells #[] 39)).alloc (.cells #[] 39)) w1.heap.size 22 (by omega)
  rw [z1] at o2
  rw [z2] at o3
  rw [z3] at o4
  have ap : ∀ x y : Nat, x ≠ y → Apart (.slice (some ⟨x, 0, none⟩) 0 0) (.slice (some ⟨y, 0, none⟩) 0 0) := fun x y hxy g hg hg' => by
    injection hg with hg; injection hg' with hg'
    have h1 : x = g := hg
    have h2 : y = g := hg'
    omega
  exact ⟨((o1.alloc _).alloc _).alloc _, (o2.alloc _).alloc _, o3.alloc _, o4, ap _ _ (by omega), ap _ _ (by omega), ap _ _ (by omega), ap _ _ (by omega), ap _ _ (by omega), ap _ _ (by omega),
    Below.step (below_alloc _ _) (Below.step (below_alloc _ _) (Below.step (below_alloc _ _) (below_alloc _ _)))⟩
/-- The turtle's state and what lies in the slices. -/
structure SRel (S : TS) (pa pb t : Nat) (P Q L : List (Nat × Nat)) (U : List Nat) : Prop where
  sat : S.at_ = (cn .f32 pa, cn .f32 pb)
  snow : S.now = cn .f32 t
  sp : S.st.map (·.1) = cp L
  su : S.st.map (·.2) = U.map (cn .f32)
  sfr : S.fr = cp P
  sto : S.to = cp Q
end Go.Proofs.Yteolemgilajaeaa
