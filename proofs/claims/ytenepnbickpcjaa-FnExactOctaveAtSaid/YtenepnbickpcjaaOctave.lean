/- OctaveAt, both sides, and its law's walk. -/
import Derived.Test.YtenepnbickpcjaaLattice
import Derived.Test.YtenepnbickpcjaaFloor
import Derived.Test.YtenepnbickpcjaaConv
import Derived.Laws.Externs
import Derived.Test.YtenepnbickpcjaaDet
import Derived.Deep.RegionWith
import Derived.BigRegion
import Derived.Deep.RegionHeld3
namespace Go.Proofs.Ytenepnbickpcjaa
open Go.RowKit

/-- The library's floor, its first look taken apart. -/
def flLook (b : Nat) (d : Ieee.Datum) : Sem Value :=
  match d with
  | .nan s t =>
    if FloatKind.f64.format.quiet t = t then pure (.float .f64 b) else do
    let kept ← choose (.extern "math.Floor,Ceil,Trunc,RoundToEven.signallingNaN kept" 2)
    pure (.float .f64 (if kept == 1 then b else FloatKind.f64.encode (.nan s (FloatKind.f64.format.quiet t))))
  | d => pure (.float .f64 (FloatKind.f64.encode (d.integral .down)))
theorem flLook_eq (b : Nat) : Extern.MathFloor.toIntegral "math.archFloor" .down #[.float .f64 b] = flLook b (FloatKind.f64.decode b) := rfl
theorem ext_floor (b : Nat) (hb : isN .f64 b = false) (w : World) : (callFunc 97 #[.float .f64 b]).run Try.prog w = .ok (.value (.float .f64 (fl64 b))) w := by
  rw [run_callFunc_extern (fn := Try.f97) (e := Extern.MathFloor.toIntegral "math.archFloor" .down) Try.func97 (by kernel_rfl) (by kernel_rfl) (by kernel_rfl) (by kernel_rfl), flLook_eq]
  have hd : FloatKind.f64.decode b = Ieee.double.read b := rfl
  unfold isN at hb
  unfold fl64
  rw [hd]
  cases hr : Ieee.double.read b with
  | nan s t => rw [show FloatKind.f64.format.read b = .nan s t from hr] at hb; simp [Ieee.Datum.isNaN] at hb
  | infinity s => rfl
  | number s m e => rfl
theorem floor_any (b : Nat) (hb : isN .f64 b = false) (w : World) : Calls Try.prog 87 #[.float .f64 b] w fun e w' => e = .returned (.float .f64 (fl64 b)) ∧ w' = w := by
  have he := fun w => ext_floor b hb w
  go_enter Try.func87, Try.ntmps87
  go_wp2
  go_ret
  exact ⟨rfl, rfl⟩

def smF (f : Nat) : Nat := fop .mul .f32 (fop .mul .f32 f f) (fop .sub .f32 (cn .f32 1077936128) (fop .mul .f32 (cn .f32 1073741824) f))
theorem smooth_any (x : Nat) (w : World) : Calls Try.prog 89 #[.float .f32 x] w (FloatR w (smF (cn .f32 x))) := by
  go_enter Try.func89, Try.ntmps89
  go_wp2
  go_ret
  exact ⟨_, _, rfl, by simp only [cn_fres]; rfl, rfl⟩
theorem l05Smooth_any (x : Nat) (w : World) : Calls Try.prog 88 #[.float .f32 x] w (FloatR w (smF (cn .f32 x))) := by
  go_enter Try.func88, Try.ntmps88
  go_wp2
  go_ret
  exact ⟨_, _, rfl, by simp only [cn_fres]; rfl, rfl⟩
def mixF (a b u : Nat) : Nat := fop .add .f32 a (fop .mul .f32 u (fop .sub .f32 b a))
theorem mix_any (a b u : Nat) (w : World) : Calls Try.prog 91 #[.float .f32 a, .float .f32 b, .float .f32 u] w (FloatR w (mixF (cn .f32 a) (cn .f32 b) (cn .f32 u))) := by
  go_enter Try.func91, Try.ntmps91
  go_wp2
  go_ret
  exact ⟨_, _, rfl, by simp only [cn_fres]; rfl, rfl⟩
theorem narrow_bits : ∀ N, N < 1001 → Ieee.single.write (Ieee.double.read (Ieee.double.write (.number false N 0))) ≤ 137 * 8388608 := by decide +kernel
theorem narrow_up (N : Nat) (h : N < 1001) : Up .f32 (Ieee.single.write (Ieee.double.read (Ieee.double.write (.number false N 0)))) 137 := ⟨false, _, rfl, narrow_bits N h⟩
theorem cn_smF (f : Nat) : cn .f32 (smF f) = smF f := cn_fop _ _ _ _
/-- A place from 0 to 1000. -/
def Plc (x : Nat) : Prop := isN .f32 x = false ∧ 0 ≤ fkey .f32 x ∧ fkey .f32 x ≤ ((1000 * 2 ^ 149 : Nat) : Int)
theorem plc {x : Nat} (h : Plc x) : ∃ bi N : Nat, N ≤ 1000 ∧ fl64 (Ieee.double.write (Ieee.single.read x)) = bi ∧ (Ieee.double.read bi).toInt .zero = some (N : Int) ∧ nfit bi = true ∧ isN .f64 bi = false ∧ smF (fop .sub .f32 (cn .f32 x) (n32 (cn .f64 bi))) = smF (fop .sub .f32 (cn .f32 x) (cn .f32 (floatOfInt .f32 (N : Int)))) ∧ Sm .f32 (Ieee.single.write (Ieee.double.read bi)) 137 := by
  obtain ⟨hn, h0, h1⟩ := h
  obtain ⟨s, N, hN, hs, hf⟩ := floor_small h0 h1 hn (by decide)
  refine ⟨_, N, hN, hf, ?_⟩
  cases s
  · obtain ⟨a1, a2, a3, _⟩ := whole_small N (by omega)
    refine ⟨a1, ?_, a3, ?_, (narrow_up N (by omega)).sm (by omega) (by rw [bias32]; omega)⟩
    · unfold nfit
      cases hr : Ieee.double.read (Ieee.double.write (.number false N 0)) with
      | number s m e => rw [hr] at a2; simp [a2]
      | infinity s => rfl
      | nan s t => rfl
    · have : n32 (cn .f64 (Ieee.double.write (.number false N 0))) = cn .f32 (floatOfInt .f32 (N : Int)) := by
        rw [cn_of_not a3, ← narrow_small N (by omega)]
        unfold n32
        rw [a3]
        refine (cn_of_not ?_).symm
        exact isN_write .f32 _ a3
      rw [this]
  · obtain ⟨rfl, hx⟩ := hs rfl
    obtain ⟨a1, a2, a3, _⟩ := whole_neg0
    refine ⟨a1, ?_, a3, ?_, Up.sm ⟨true, 0, by decide +kernel, Nat.zero_le _⟩ (by omega) (by rw [bias32]; omega)⟩
    · unfold nfit
      cases hr : Ieee.double.read (Ieee.double.write (.number true 0 0)) with
      | number s m e => rw [hr] at a2; simp [a2]
      | infinity s => rfl
      | nan s t => rfl
    · rw [cn_of_not hn]
      have hx' : FloatKind.f32.format.read x = FloatKind.f32.format.read 2147483648 := by
        rw [show FloatKind.f32.format.read x = .number true 0 (-149) from hx]
        decide +kernel
      rw [fop_congr hx', fop_congr hx']
      decide +kernel

/-- What both sides' octave gives. -/
def octF (s : Int) (x y i j : Int) (X Y : Nat) : Nat :=
  let u := smF (fop .sub .f32 X (cn .f32 (floatOfInt .f32 i)))
  let v := smF (fop .sub .f32 Y (cn .f32 (floatOfInt .f32 j)))
  mixF (mixF (latF s x y) (latF s (x + 1) y) u) (mixF (latF s x (y + 1)) (latF s (x + 1) (y + 1)) u) v
/-- The whole number at or below a place. -/
def flI (x : Nat) : Int := ((Ieee.double.read (fl64 (Ieee.double.write (Ieee.single.read x)))).toInt .zero).getD 0
def octX (s : Int) (x y : Nat) : Nat := octF s (flI x) (flI y) (flI x) (flI y) (cn .f32 x) (cn .f32 y)

set_option maxHeartbeats 1000000 in
theorem l05Octave_any (s : Int) (x y : Nat) (w : World) (s0 : 0 ≤ s) (s1 : s ≤ 2147483647) (hx : Plc x) (hy : Plc y) :
    Calls Try.prog 61 #[.int .i64 s, .float .f32 x, .float .f32 y] w (FloatR w (octX s x y)) := by
  obtain ⟨bx, nx, hnx, fx, ix, tx, nnx, sx, _⟩ := plc hx
  obtain ⟨by', ny, hny, fy, iy, ty, nny, sy, _⟩ := plc hy
  have wx : ∀ w, wres x w = Ieee.double.write (Ieee.single.read x) := fun w => by unfold wres; rw [hx.1]; rfl
  have wy : ∀ w, wres y w = Ieee.double.write (Ieee.single.read y) := fun w => by unfold wres; rw [hy.1]; rfl
  have dx : wdr x = 0 := by unfold wdr; rw [hx.1]; rfl
  have dy : wdr y = 0 := by unfold wdr; rw [hy.1]; rfl
  have gx : isN .f64 (Ieee.double.write (Ieee.single.read x)) = false := isN_write .f64 _ hx.1
  have gy : isN .f64 (Ieee.double.write (Ieee.single.read y)) = false := isN_write .f64 _ hy.1
  have cx := fun w => run_whole (P := Try.prog) w 26 2 bx nx (by kernel_rfl) Try.underlying2 ix (by omega) (by omega)
  have cy := fun w => run_whole (P := Try.prog) w 26 2 by' ny (by kernel_rfl) Try.underlying2 iy (by omega) (by omega)
  have HO : Hid (octX s x y = octF s nx ny nx ny (cn .f32 x) (cn .f32 y)) := Lib.hid (by unfold octX flI; rw [fx, fy, ix, iy]; rfl)
  have SX := Lib.hid sx
  have SY := Lib.hid sy
  clear sx sy hx hy ix iy
  go_enter Try.func61, Try.ntmps61
  go_wp2_with fail
  refine (floor_any _ gx _).mono ?_
  rintro e w1 ⟨rfl, rfl⟩
  rw [fx]
  go_wp2_with fail
  refine (floor_any _ gy _).mono ?_
  rintro e w1 ⟨rfl, rfl⟩
  rw [fy]
  go_wp2_with fail
  refine (l05Smooth_any _ _).mono ?_
  rintro e w1 ⟨u1, n1, rfl, e1, rfl⟩
  have E1 := Lib.hid e1
  clear e1
  go_wp2_with fail
  refine (l05Smooth_any _ _).mono ?_
  rintro e w1 ⟨u2, n2, rfl, e2, rfl⟩
  have E2 := Lib.hid e2
  clear e2
  go_wp2_with fail
  refine (l05Lattice_any _ _ _ _ s0 s1 (by omega) (by omega) (by omega) (by omega)).mono ?_
  rintro e w1 ⟨l1, m1, rfl, g1, rfl⟩
  have G1 := Lib.hid g1
  clear g1
  go_wp2_with fail
  refine (l05Lattice_any _ _ _ _ s0 s1 (by omega) (by omega) (by omega) (by omega)).mono ?_
  rintro e w1 ⟨l2, m2, rfl, g2, rfl⟩
  have G2 := Lib.hid g2
  clear g2
  go_wp2_with fail
  refine (l05Lattice_any _ _ _ _ s0 s1 (by omega) (by omega) (by omega) (by omega)).mono ?_
  rintro e w1 ⟨l3, m3, rfl, g3, rfl⟩
  have G3 := Lib.hid g3
  clear g3
  go_wp2_with fail
  refine (l05Lattice_any _ _ _ _ s0 s1 (by omega) (by omega) (by omega) (by omega)).mono ?_
  rintro e w1 ⟨l4, m4, rfl, g4, rfl⟩
  have G4 := Lib.hid g4
  clear g4
  go_wp2
  go_ret
  exact ⟨_, _, rfl, by simp only [cn_fres, E1.out, E2.out, G1.out, G2.out, G3.out, G4.out]; exact HO.out.symm, rfl⟩

/-- Where the number is not too great, smooth draws nothing. -/
theorem smooth_det (f : Nat) (hf : Sm .f32 f 140) (w : World) : Calls Try.prog 89 #[.float .f32 f] w fun e w' => e = .returned (.float .f32 (smF f)) ∧ w' = w := by
  have c3 : cn .f32 1077936128 = 1077936128 := by decide +kernel
  have c2 : cn .f32 1073741824 = 1073741824 := by decide +kernel
  have k3 : Sm .f32 1077936128 129 := ⟨false, 12582912, -22, by decide +kernel, by decide, by decide⟩
  have k2 : Sm .f32 1073741824 128 := ⟨false, 8388608, -22, by decide +kernel, by decide, by decide⟩
  have D1 := det_mul (R := 153) hf hf (by rw [bias32]) (by omega)
  have D2 := det_mul (R := 141) k2 hf (by rw [bias32]) (by omega)
  have D3 := det_sub (k3.weak (show 129 ≤ 141 by omega)) (D2.up.sm (by omega) (by rw [bias32]; omega)) (by omega)
  have D4 := det_mul (R := 168) (D1.up.sm (by omega) (by rw [bias32]; omega)) (D3.up.sm (by omega) (by rw [bias32]; omega)) (by rw [bias32]) (by omega)
  have r1 := D1.res
  have d1 := D1.dr
  have r2 := D2.res
  have d2 := D2.dr
  have r3 := D3.res
  have d3 := D3.dr
  have r4 := D4.res
  have d4 := D4.dr
  have hS : Hid (smF f = fop .mul .f32 (fop .mul .f32 f f) (fop .sub .f32 1077936128 (fop .mul .f32 1073741824 f))) := Lib.hid (by unfold smF; rw [c3, c2])
  clear D1 D2 D3 D4 c3 c2
  go_enter Try.func89, Try.ntmps89
  go_wp2
  go_ret
  exact ⟨by rw [hS.out]; rfl, rfl⟩

theorem cell_new1 (w : World) (v : Value) (t : TypeId) (p : Nat) (hp : p = w.heap.size) : (w.alloc (.cells #[v] t)).cell? ⟨p, 0, none⟩ = some v := by
  subst hp
  unfold World.cell?
  rw [heap_alloc_new]
  rfl
theorem cells3 (w : World) (a b c : Value) (ta tb tc : TypeId) :
    (((w.alloc (.cells #[a] ta)).alloc (.cells #[b] tb)).alloc (.cells #[c] tc)).cell? ⟨w.heap.size, 0, none⟩ = some a ∧ (((w.alloc (.cells #[a] ta)).alloc (.cells #[b] tb)).alloc (.cells #[c] tc)).cell? ⟨w.heap.size + 1, 0, none⟩ = some b ∧
    (((w.alloc (.cells #[a] ta)).alloc (.cells #[b] tb)).alloc (.cells #[c] tc)).cell? ⟨w.heap.size + 1 + 1, 0, none⟩ = some c := by
  have z1 : (w.alloc (.cells #[a] ta)).heap.size = w.heap.size + 1 := World.size_alloc _ _
  have z2 : ((w.alloc (.cells #[a] ta)).alloc (.cells #[b] tb)).heap.size = w.heap.size + 1 + 1 := by rw [World.size_alloc, z1]
  refine ⟨?_, ?_, cell_new1 _ _ _ _ z2.symm⟩
  · exact ((below_alloc _ _).cell (p := ⟨w.heap.size, 0, none⟩) (by rw [z2]; show _ < _; simp only []; omega)).trans (((below_alloc _ _).cell (p := ⟨w.heap.size, 0, none⟩) (by rw [z1]; show _ < _; simp only []; omega)).trans (cell_new1 _ _ _ _ rfl))
  · exact ((below_alloc _ _).cell (p := ⟨w.heap.size + 1, 0, none⟩) (by rw [z2]; show _ < _; simp only []; omega)).trans (cell_new1 _ _ _ _ z1.symm)
theorem octave1_any (s dx dy : Int) (bx by' nx ny : Nat) (p q r : Nat) (w : World) (s0 : 0 ≤ s) (s1 : s ≤ 2147483647) (x0 : 0 ≤ dx) (x1 : dx ≤ 1) (y0 : 0 ≤ dy) (y1 : dy ≤ 1) (hnx : nx ≤ 1000) (hny : ny ≤ 1000)
    (cx : ∀ w, Sem.run Try.prog (convert 26 2 (.float .f64 bx)) w = .ok (.int .i64 nx) w) (cy : ∀ w, Sem.run Try.prog (convert 26 2 (.float .f64 by')) w = .ok (.int .i64 ny) w)
    (hs : w.cell? ⟨p, 0, none⟩ = some (.int .i64 s)) (hi : w.cell? ⟨q, 0, none⟩ = some (.float .f64 bx)) (hj : w.cell? ⟨r, 0, none⟩ = some (.float .f64 by')) :
    Calls Try.prog 90 #[.int .i64 dx, .int .i64 dy, .pointer (some ⟨p, 0, none⟩), .pointer (some ⟨q, 0, none⟩), .pointer (some ⟨r, 0, none⟩)] w (FloatR w (latF s ((nx : Int) + dx) ((ny : Int) + dy))) := by
  go_enter Try.func90, Try.ntmps90
  go_wp2_with fail
  refine (lattice_any _ _ _ _ s0 s1 (by omega) (by omega) (by omega) (by omega)).mono ?_
  rintro e w1 ⟨b, n, rfl, hx, rfl⟩
  have HX := Lib.hid hx
  clear hx
  go_wp2
  go_ret
  exact ⟨_, _, rfl, HX.out, rfl⟩

set_option maxRecDepth 100000 in
set_option maxHeartbeats 1000000 in
theorem octave_any (s : Int) (x y : Nat) (w : World) (s0 : 0 ≤ s) (s1 : s ≤ 2147483647) (hx : Plc x) (hy : Plc y) :
    Calls Try.prog 62 #[.int .i64 s, .float .f32 x, .float .f32 y] w fun e w' => ∃ b, e = .returned (.float .f32 b) ∧ cn .f32 b = octX s x y ∧ Below w.heap.size w w' := by
  obtain ⟨bx, nx, hnx, fx, ix, tx, nnx, sx, kx⟩ := plc hx
  obtain ⟨by', ny, hny, fy, iy, ty, nny, sy, ky⟩ := plc hy
  have wx : ∀ w, wres x w = Ieee.double.write (Ieee.single.read x) := fun w => by unfold wres; rw [hx.1]; rfl
  have wy : ∀ w, wres y w = Ieee.double.write (Ieee.single.read y) := fun w => by unfold wres; rw [hy.1]; rfl
  have dx : wdr x = 0 := by unfold wdr; rw [hx.1]; rfl
  have dy : wdr y = 0 := by unfold wdr; rw [hy.1]; rfl
  have gx : isN .f64 (Ieee.double.write (Ieee.single.read x)) = false := isN_write .f64 _ hx.1
  have gy : isN .f64 (Ieee.double.write (Ieee.single.read y)) = false := isN_write .f64 _ hy.1
  have cx := fun w => run_whole (P := Try.prog) w 26 2 bx nx (by kernel_rfl) Try.underlying2 ix (by omega) (by omega)
  have cy := fun w => run_whole (P := Try.prog) w 26 2 by' ny (by kernel_rfl) Try.underlying2 iy (by omega) (by omega)
  have nax := fun w => run_narrow (P := Try.prog) w 26 22 bx (by kernel_rfl) Try.underlying22 tx
  have nay := fun w => run_narrow (P := Try.prog) w 26 22 by' (by kernel_rfl) Try.underlying22 ty
  have px := sm_place hx.1 hx.2.1 hx.2.2
  have py := sm_place hy.1 hy.2.1 hy.2.2
  have qx : ∀ w, nres bx w = Ieee.single.write (Ieee.double.read bx) := fun w => by unfold nres; rw [nnx]; rfl
  have qy : ∀ w, nres by' w = Ieee.single.write (Ieee.double.read by') := fun w => by unfold nres; rw [nny]; rfl
  have ex : ndr bx = 0 := by unfold ndr; rw [nnx]; rfl
  have ey : ndr by' = 0 := by unfold ndr; rw [nny]; rfl
  have Dx := det_sub px (kx : Sm .f32 (Ieee.single.write (Ieee.double.read bx)) 137) (by omega)
  have Dy := det_sub py (ky : Sm .f32 (Ieee.single.write (Ieee.double.read by')) 137) (by omega)
  have su := (Dx.up.sm (by omega) (by rw [bias32]; omega)).weak (show 138 ≤ 140 by omega)
  have sv := (Dy.up.sm (by omega) (by rw [bias32]; omega)).weak (show 138 ≤ 140 by omega)
  have rx := Dx.res
  have ry := Dy.res
  have drx := Dx.dr
  have dry := Dy.dr
  clear Dx Dy
  have HO : Hid (octX s x y = octF s nx ny nx ny (cn .f32 x) (cn .f32 y)) := Lib.hid (by unfold octX flI; rw [fx, fy, ix, iy]; rfl)
  have SX := Lib.hid sx
  have SY := Lib.hid sy
  clear sx sy hx hy ix iy
  go_enter Try.func62, Try.ntmps62
  go_wp2_with fail
  refine (floor_any _ gx _).mono ?_
  rintro e w1 ⟨rfl, rfl⟩
  rw [fx]
  go_wp2_with fail
  refine (floor_any _ gy _).mono ?_
  rintro e w1 ⟨rfl, rfl⟩
  rw [fy]
  go_wp2_with fail
  go_quiet ((go_at_call 89; exact Calls.quiet_of_same (smooth_det _ (by assumption) _)))
  go_wp2_with fail
  have kW := Below.step (Below.step (below_alloc w (.cells #[.int .i64 s] 2)) (below_alloc (w.alloc (.cells #[.int .i64 s] 2)) (.cells #[.float .f64 bx] 26))) (below_alloc ((w.alloc (.cells #[.int .i64 s] 2)).alloc (.cells #[.float .f64 bx] 26)) (.cells #[.float .f64 by'] 26))
  obtain ⟨hs, hi, hj⟩ := cells3 w (.int .i64 s) (.float .f64 bx) (.float .f64 by') 2 26 26
  generalize hW : (((w.alloc (.cells #[.int .i64 s] 2)).alloc (.cells #[.float .f64 bx] 26)).alloc (.cells #[.float .f64 by'] 26)) = W at kW hs hi hj
  change Calls Try.prog _ _ ((((w.alloc (.cells #[.int .i64 s] 2)).alloc (.cells #[.float .f64 bx] 26)).alloc (.cells #[.float .f64 by'] 26)).drewN nq) _
  rw [hW]
  clear hW
  refine (octave1_any s 0 0 bx by' nx ny _ _ _ (W.drewN nq) s0 s1 (by omega) (by omega) (by omega) (by omega) hnx hny cx cy hs hi hj).mono ?_
  rintro e w1 ⟨l1, m1, rfl, g1, rfl⟩
  have G1 := Lib.hid g1
  clear g1
  go_wp2_with fail
  refine (octave1_any s 1 0 bx by' nx ny _ _ _ (W.drewN (nq + m1)) s0 s1 (by omega) (by omega) (by omega) (by omega) hnx hny cx cy hs hi hj).mono ?_
  rintro e w1 ⟨l2, m2, rfl, g2, rfl⟩
  have G2 := Lib.hid g2
  clear g2
  go_wp2_with fail
  refine (mix_any _ _ _ _).mono ?_
  rintro e w1 ⟨p1, z1, rfl, h1, rfl⟩
  have H1 := Lib.hid h1
  clear h1
  go_wp2_with fail
  refine (octave1_any s 0 1 bx by' nx ny _ _ _ (W.drewN _) s0 s1 (by omega) (by omega) (by omega) (by omega) hnx hny cx cy hs hi hj).mono ?_
  rintro e w1 ⟨l3, m3, rfl, g3, rfl⟩
  have G3 := Lib.hid g3
  clear g3
  go_wp2_with fail
  refine (octave1_any s 1 1 bx by' nx ny _ _ _ (W.drewN _) s0 s1 (by omega) (by omega) (by omega) (by omega) hnx hny cx cy hs hi hj).mono ?_
  rintro e w1 ⟨l4, m4, rfl, g4, rfl⟩
  have G4 := Lib.hid g4
  clear g4
  go_wp2_with fail
  refine (mix_any _ _ _ _).mono ?_
  rintro e w1 ⟨p2, z2, rfl, h2, rfl⟩
  have H2 := Lib.hid h2
  clear h2
  go_wp2_with fail
  refine (mix_any _ _ _ _).mono ?_
  rintro e w1 ⟨p3, z3, rfl, h3, rfl⟩
  have H3 := Lib.hid h3
  clear h3
  go_wp2
  go_ret
  refine ⟨_, rfl, ?_, below_drewN kW _⟩
  rw [H3.out, H1.out, H2.out, G1.out, G2.out, G3.out, G4.out, cn_smF, cn_smF, HO.out]
  have X1 : fop .sub .f32 (cn .f32 x) (n32 (cn .f64 bx)) = fop .sub .f32 x (Ieee.single.write (Ieee.double.read bx)) := by
    rw [px.cn, cn_of_not nnx]; unfold n32; rw [nnx]; rfl
  have Y1 : fop .sub .f32 (cn .f32 y) (n32 (cn .f64 by')) = fop .sub .f32 y (Ieee.single.write (Ieee.double.read by')) := by
    rw [py.cn, cn_of_not nny]; unfold n32; rw [nny]; rfl
  rw [← X1, ← Y1, SX.out, SY.out, Int.add_zero, Int.add_zero]
  rfl
end Go.Proofs.Ytenepnbickpcjaa
