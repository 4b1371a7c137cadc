/- Spectra: what both sides' walks share. -/
import Derived.Test.YtamgekijihpgkaaSq
import Derived.Test.YtamgekijihpgkaaSame
import Derived.Laws.MakeOwn
namespace Go.Proofs.Ytamgekijihpgkaa
open Go.RowKit Ieee

theorem kd_word {s : Bool} {r : Nat} (h : r ≤ double.infRung) : Kd (double.word s r) := by
  rw [inf64] at h
  rcases Nat.lt_or_eq_of_le h with h' | h'
  · exact .num s r rfl h'
  · exact .inf s (by rw [h'])
theorem kd_write {d : Datum} (h : d.isNaN = false) : Kd (double.write d) := by
  cases d with
  | nan s m => cases h
  | infinity s => exact kd_word (Nat.le_refl _)
  | number s m e =>
    obtain ⟨r, hr, he⟩ := nearest_word double s m e
    have : double.write (.number s m e) = double.word s r := he
    rw [this]
    exact kd_word hr
theorem sum_num {a b d : Datum} (h : a.sum b = some d) : d.isNaN = false := by
  cases a <;> cases b <;> simp [Datum.sum] at h
  · rw [← h]; rfl
  · rw [← h]; rfl
  · rw [← h]; rfl
  · obtain ⟨_, h⟩ := h; rw [← h]; rfl
theorem kd_add (x y : Nat) (w : World) : Kd (fres .add .f64 x y w) := by
  unfold fres
  cases h : floatBits .add .f64 x y with
  | none => exact .nan (nan_bits _ _ _ _)
  | some r =>
    have h' : ((double.read x).sum (double.read y)).map double.write = some r := h
    cases hs : (double.read x).sum (double.read y) with
    | none => rw [hs] at h'; cases h'
    | some d =>
      rw [hs] at h'
      injection h' with h'
      rw [← h']
      exact kd_write (sum_num hs)
theorem cn_inj {k : FloatKind} {b x : Nat} (h : cn k b = x) (hx : isN k x = false) : b = x := by
  cases hb : isN k b
  · rw [cn_of_not hb] at h; exact h
  · rw [← h, isN_cn, hb] at hx; cases hx
theorem up_num {x R : Nat} (h : Up .f32 x R) (h1 : 1 ≤ R) (h2 : R ≤ 254) : isN .f32 x = false := (h.sm h1 (by show R ≤ 2 * 127; omega)).num
theorem up_fin {x R : Nat} (h : Up .f32 x R) (h1 : 1 ≤ R) (h2 : R ≤ 254) : finB x = true := by
  obtain ⟨s, m, e, a, _⟩ := h.read h1 (by show R ≤ 2 * 127; omega)
  have hs : Datum.sum (.number s m e) (.number (!s) m e) = some (.number false 0 e) := by
    unfold Datum.sum
    have hmin : min e e = e := by omega
    simp only [hmin]
    have hz : (e - e).toNat = 0 := by omega
    rw [hz, signed_not, Int.add_right_neg]
    cases s <;> simp
  obtain ⟨_, _, p3⟩ := det0 (op := .sub) (k := .f32) (x := x) (y := x) (d := .number false 0 e) (by
    simp only [floatBits, Format.sub, a, Datum.opposite, hs, Option.map_some]) rfl
  unfold finB
  rw [p3]
  show (ford .f32 (single.nearest false 0 e) (cn .f32 0) == some .eq) = true
  rw [near0]
  decide +kernel
theorem cn_up {x R : Nat} (h : Up .f32 x R) (h1 : 1 ≤ R) (h2 : R ≤ 254) : cn .f32 x = x := cn_of_not (up_num h h1 h2)
theorem wd_num {x : Nat} (h : isN .f32 x = false) : isN .f64 (wd x) = false := isN_write .f64 _ h
/-- The turns, as both sides reckon them. -/
theorem turn_impl {s : Int} {ik n : Int} (h0 : 0 ≤ s) (h1 : s ≤ 2147483647) (a : isN .f64 (floatOfInt .f64 ik) = false) (b : isN .f64 (floatOfInt .f64 n) = false) (w1 w2 w3 : World) :
    phV (fres .add .f64 (fres .quo .f64 (wd (drawnF s)) 4611686018427387904 w1) (fres .quo .f64 (floatOfInt .f64 ik) (floatOfInt .f64 n) w2) w3) = phV (turnF s ik n) := by
  have hu := drawn_up h0 h1
  have hn := wd_num (up_num hu (by decide) (by decide))
  have c2 : cn .f64 4611686018427387904 = 4611686018427387904 := by decide +kernel
  rw [← phV_cn]
  simp only [cn_fres]
  rw [cn_of_not hn, cn_of_not a, cn_of_not b, c2, half_wide (hu.sm (by decide) (by decide))]
  rfl
theorem turn_spec {s : Int} {ik n : Int} (h0 : 0 ≤ s) (h1 : s ≤ 2147483647) (a : isN .f64 (floatOfInt .f64 ik) = false) (b : isN .f64 (floatOfInt .f64 n) = false) (w1 w2 w3 : World) :
    phV (fres .add .f64 (fres .mul .f64 4602678819172646912 (wd (drawnF s)) w1) (fres .quo .f64 (floatOfInt .f64 ik) (floatOfInt .f64 n) w2) w3) = phV (turnF s ik n) := by
  have hu := drawn_up h0 h1
  have hn := wd_num (up_num hu (by decide) (by decide))
  have c2 : cn .f64 4602678819172646912 = 4602678819172646912 := by decide +kernel
  rw [← phV_cn]
  simp only [cn_fres]
  rw [cn_of_not hn, cn_of_not a, cn_of_not b, c2]
  rfl
theorem slope_sg {x : Nat} (g1 : (ford .f32 (cn .f32 x) (cn .f32 0) == some .gt || ford .f32 (cn .f32 x) (cn .f32 0) == some .eq) = true) (g2 : (ford .f32 (cn .f32 x) (cn .f32 1090519040) == some .lt || ford .f32 (cn .f32 x) (cn .f32 1090519040) == some .eq) = true) : Sg .f32 x 130 false := by
  rw [ford_cn] at g1 g2
  have hn : isN .f32 x = false := by
    cases h : isN .f32 x
    · rfl
    · rw [ford_nanL _ h] at g1; cases g1
  have k0 : fkey .f32 0 = 0 ∧ isN .f32 0 = false ∧ isN .f32 1090519040 = false ∧ fkey .f32 1090519040 = ((pw 152 : Nat) : Int) := by decide +kernel
  obtain ⟨z0, z1, z2, z3⟩ := k0
  rw [ford_key hn z1, z0] at g1
  rw [ford_key hn z2, z3] at g2
  have h0 : 0 ≤ fkey .f32 x := by
    rcases Int.lt_or_le (fkey .f32 x) 0 with h | h
    · rw [cmp_lt h] at g1; cases g1
    · exact h
  have h8 : fkey .f32 x ≤ ((pw 152 : Nat) : Int) := by
    rcases Int.lt_or_le ((pw 152 : Nat) : Int) (fkey .f32 x) with h | h
    · rw [cmp_gt h] at g2; cases g2
    · exact h
  cases hr : single.read x with
  | nan s m => unfold isN at hn; rw [show FloatKind.f32.format.read x = .nan s m from hr] at hn; cases hn
  | infinity s =>
    exfalso
    have hk : fkey .f32 x = if s then -farKey else farKey := by
      show dkey single.leastPlace (single.read x) = _
      rw [hr]; rfl
    have hE := farE_gt
    have hbig : ((pw 152 : Nat) : Int) < farKey := by
      unfold farKey
      exact Int.ofNat_lt.2 (Nat.pow_lt_pow_right (by decide) (by omega))
    rw [hk] at h0 h8
    generalize farKey = F at *
    generalize pw 152 = P at *
    cases s <;> simp at h0 h8 <;> omega
  | number s m e =>
    obtain ⟨hm, he1, he2⟩ := single_bounds hr
    have hk := fkey32 hr
    rw [hk] at h0 h8
    have b32 : bias .f32 = 127 := rfl
    have hz : s ≠ false → m = 0 := by
      intro hs
      have : s = true := by cases s <;> simp_all
      subst this
      unfold signed at h0
      simp only [if_true] at h0
      rcases Nat.eq_zero_or_pos m with h | h
      · exact h
      · exfalso
        have : 0 < m <<< (e + 149).toNat := by rw [Nat.shiftLeft_eq]; exact Nat.mul_pos h (Nat.two_pow_pos _)
        generalize m <<< (e + 149).toNat = u at *
        omega
    have hle : m <<< (e + 149).toNat ≤ pw 152 := by
      have := signed_abs s m (e + 149).toNat
      generalize m <<< (e + 149).toNat = u at *
      generalize pw 152 = P at *
      omega
    by_cases hm0 : m = 0
    · subst hm0
      have he : e = -149 := by
        have := read_zero single hr
        rw [this]; decide
      exact ⟨s, 0, e, hr, by rw [b32]; omega, Nat.zero_le _, fun _ => rfl⟩
    · have he3 : e ≤ 3 := by
        rcases Int.lt_or_le 3 e with h | h
        · exfalso
          have h2 : 2 ^ 153 ≤ 2 ^ (e + 149).toNat := Nat.pow_le_pow_right (by decide) (by omega)
          have h3 : 1 * 2 ^ (e + 149).toNat ≤ m * 2 ^ (e + 149).toNat := Nat.mul_le_mul_right _ (by omega)
          rw [Nat.shiftLeft_eq, pw_eq] at hle
          have h4 : 2 ^ 152 < 2 ^ 153 := Nat.pow_lt_pow_right (by decide) (by decide)
          omega
        · exact h
      refine ⟨s, m, e, hr, by rw [b32]; omega, ?_, hz⟩
      rw [b32]
      apply Nat.le_of_mul_le_mul_right (c := 2 ^ (e + 149).toNat) _ (Nat.two_pow_pos _)
      rw [← Nat.pow_add, show (((130 : Nat) : Int) - ((127 : Nat) : Int) - e).toNat + (e + 149).toNat = 152 by omega]
      rw [Nat.shiftLeft_eq, pw_eq] at hle
      exact hle
/-- The list under way: the places ahead of i have one wave more. -/
structure SpI (w1 : World) (A : Option Addr) (ys : List Nat) (n : Nat) (slope : Nat) (seed : Int) (K i : Nat) (wr : World) : Prop where
  own : OwnS w1.heap.size wr A (ys.map fv)
  bel : Below w1.heap.size w1 wr
  len : ys.length = n
  val : ∀ (j : Nat) (h : j < ys.length), cn .f32 ys[j] = oF slope seed n (if j < i then K + 1 else K) j
theorem SpI.drewN {w1 wr : World} {A : Option Addr} {ys : List Nat} {n slope K i : Nat} {seed : Int} (I : SpI w1 A ys n slope seed K i wr) (m : Nat) : SpI w1 A ys n slope seed K i (wr.drewN m) := ⟨I.own.drewN m, ⟨I.bel.os, I.bel.tape, I.bel.output, I.bel.size, I.bel.block⟩, I.len, I.val⟩
theorem SpI.next {w1 wr : World} {A : Option Addr} {ys : List Nat} {n slope K : Nat} {seed : Int} (I : SpI w1 A ys n slope seed K n wr) : SpI w1 A ys n slope seed (K + 1) 0 wr :=
  ⟨I.own, I.bel, I.len, fun j h => by
    have h0 := I.val j h
    have hl := I.len
    rw [if_pos (by omega)] at h0
    rw [if_neg (by omega)]
    exact h0⟩
theorem own_put {B : Nat} {w : World} {b o k : Nat} {xs : List Value} {v : Value} (h : OwnS B w (some ⟨b, o, none⟩) xs) (hk : k < xs.length) : OwnS B (w.setCell ⟨b, o + k, none⟩ v) (some ⟨b, o, none⟩) (xs.set k v) := by
  refine ⟨fun i u hu => ?_, by rw [List.length_set]; exact h.2.1.set _ _, fun c hc => ⟨(h.2.2 c hc).1, by simpa [World.setCell] using (h.2.2 c hc).2⟩⟩
  by_cases e : i = k
  · subst e
    have hv : v = u := by simpa [hk] using hu
    subst hv
    obtain ⟨b', o', e', hb, hc⟩ := h.1 i xs[i] (by simp [hk])
    injection e' with e'
    injection e' with e1 e2
    subst e1; subst e2
    exact ⟨b, o, rfl, by simpa [World.setCell] using hb, World.cell?_setCell_same _ _ _ hc⟩
  · obtain ⟨b', o', e', hb, hc⟩ := h.1 i u (by rw [← hu, List.getElem?_set_ne (by omega)])
    injection e' with e'
    injection e' with e1 e2
    subst e1; subst e2
    exact ⟨b, o, rfl, by simpa [World.setCell] using hb, (World.cell?_setCell_other _ _ _ _ (by simp <;> omega)).trans hc⟩
theorem SpI.put {w1 wr : World} {b : Nat} {ys : List Nat} {n slope K i v : Nat} {seed : Int} (I : SpI w1 (some ⟨b, 0, none⟩) ys n slope seed K i wr) (hi : i < ys.length) (hv : cn .f32 v = oF slope seed n (K + 1) i) (hb : w1.heap.size ≤ b) : SpI w1 (some ⟨b, 0, none⟩) (ys.set i v) n slope seed K (i + 1) (wr.setCell ⟨b, i, none⟩ (.float .f32 v)) := by
  have ho := own_put (v := fv v) I.own (k := i) (by rw [List.length_map]; exact hi)
  rw [Nat.zero_add] at ho
  refine ⟨by rw [List.map_set]; exact ho, ?_, by rw [List.length_set]; exact I.len, fun j h => ?_⟩
  · exact Keep.below I.bel ((Keep.refl (fun g => g = b) wr).setCell (p := ⟨b, i, none⟩) (.inl rfl) _) I.bel.size (fun g h => by have h : g = b := h; omega)
  · rw [List.length_set] at h
    by_cases e : j = i
    · subst e
      rw [if_pos (by omega), List.getElem_set_self]
      exact hv
    · rw [List.getElem_set_ne (fun h => e h.symm), I.val j h]
      congr 1
      by_cases h2 : j < i
      · rw [if_pos h2, if_pos (by omega)]
      · rw [if_neg h2, if_neg (by omega)]
theorem info.f32s : (Try.prog.info? 25).map (fun i => (i.zero, i.size, i.bytes)) = some (some (.float .f32 0), 1, 4) := by kernel_rfl
/-- make([]float32, n). -/
theorem make_f32 (n : Nat) (hn : n ≤ 64) : ∀ w : World, (Instr.makeSlice 27 (.int .i64 (n : Int)) (.int .i64 (n : Int))).run Try.prog w = .ok (.slice (some ⟨w.heap.size, 0, none⟩) n n) (w.alloc (.cells (madeCells #[.float .f32 0] n) 25)) := by
  intro w
  cases hi : Try.prog.info? 25 with
  | none => have := info.f32s; rw [hi] at this; cases this
  | some i =>
    have h := info.f32s
    rw [hi] at h
    simp at h
    obtain ⟨h1, h2, h3⟩ := h
    have := run_make w 27 25 i (.float .f32 0) Try.underlying27 hi h1 .i64 .i64 (n : Int) (n : Int) (by omega) (Int.le_refl _) (by rw [h3]; omega) (by omega)
    rw [h2] at this
    simpa [Value.cells] using this
theorem made_at (n k : Nat) (h : k < n) : (madeCells #[.float .f32 0] n)[k]? = some (.float .f32 0) := by
  unfold madeCells
  simp [h, Nat.mod_one]
theorem spi_start {w1 : World} {n slope : Nat} {seed : Int} : SpI w1 (some ⟨w1.heap.size, 0, none⟩) (List.replicate n 0) n slope seed 0 0 (w1.alloc (.cells (madeCells #[.float .f32 0] n) 25)) := by
  have hz : (w1.alloc (.cells (madeCells #[.float .f32 0] n) 25)).heap.size = w1.heap.size + 1 := World.size_alloc _ _
  have hc : ∀ k, k < n → (w1.alloc (.cells (madeCells #[.float .f32 0] n) 25)).cell? ⟨w1.heap.size, k, none⟩ = some (.float .f32 0) := fun k hk => by
    unfold World.cell?
    rw [heap_alloc_new]
    exact made_at n k hk
  refine ⟨⟨fun i u hu => ?_, fun j hj => ?_, fun b hb => ?_⟩, below_alloc _ _, by simp, fun j h => ?_⟩
  · have hlt : i < n := by
      have := (List.getElem?_eq_some_iff.1 hu).1
      simpa using this
    refine ⟨w1.heap.size, 0, rfl, by omega, ?_⟩
    rw [Nat.zero_add, hc i hlt]
    rw [List.map_replicate, List.getElem?_replicate_of_lt hlt] at hu
    exact hu
  · have hlt : j < n := by simpa using hj
    refine ⟨w1.heap.size, 0, rfl, by omega, ⟨_, by rw [Nat.zero_add]; exact hc j hlt⟩, ?_⟩
    unfold World.frozen?
    rw [heap_alloc_new]
    rfl
  · obtain ⟨o, ho⟩ := hb
    injection ho with ho
    injection ho with h1 h2
    exact ⟨by omega, by omega⟩
  · rw [List.getElem_replicate]
    rw [if_neg (by omega)]
    show cn .f32 0 = 0
    decide +kernel
end Go.Proofs.Ytamgekijihpgkaa
