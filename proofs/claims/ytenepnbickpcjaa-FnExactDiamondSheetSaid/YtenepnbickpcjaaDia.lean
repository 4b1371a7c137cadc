/- DiamondSheet: what is reckoned. -/
import Derived.Test.YtenepnbickpcjaaAr
import Derived.Test.YtenepnbickpcjaaChg
namespace Go.Proofs.Ytenepnbickpcjaa
open Go.RowKit

def geB (k : FloatKind) (x y : Nat) : Bool := ford k x y == some .gt || ford k x y == some .eq
def leB (k : FloatKind) (x y : Nat) : Bool := ford k x y == some .lt || ford k x y == some .eq
def shareB (x : Nat) : Bool := geB .f32 x (cn .f32 0) && leB .f32 x (cn .f32 1065353216)
theorem share_any (x : Nat) (w : World) : Calls Try.prog 76 #[.float .f32 x] w fun e w' => e = .returned (.bool (shareB (cn .f32 x))) ∧ w = w' := by
  by_cases h : geB .f32 (cn .f32 x) (cn .f32 0) = true
  · have h' := h
    unfold geB at h'
    go_enter Try.func76, Try.ntmps76
    go_wp2
    go_ret
    exact ⟨ret_bool (by first | (simp [shareB, h]; done) | (simp [shareB, h]; rfl)), rfl⟩
  · have h' := h
    unfold geB at h'
    go_enter Try.func76, Try.ntmps76
    go_wp2
    go_ret
    exact ⟨ret_bool (by first | (simp [shareB, h]; done) | (simp [shareB, h]; rfl)), rfl⟩
theorem isShare_any (x : Nat) (w : World) : Calls Try.prog 80 #[.float .f32 x] w fun e w' => e = .returned (.bool (shareB (cn .f32 x))) ∧ w = w' := by
  by_cases h : geB .f32 (cn .f32 x) (cn .f32 0) = true
  · have h' := h
    unfold geB at h'
    go_enter Try.func80, Try.ntmps80
    go_wp2
    go_ret
    exact ⟨ret_bool (by first | (simp [shareB, h]; done) | (simp [shareB, h]; rfl)), rfl⟩
  · have h' := h
    unfold geB at h'
    go_enter Try.func80, Try.ntmps80
    go_wp2
    go_ret
    exact ⟨ret_bool (by first | (simp [shareB, h]; done) | (simp [shareB, h]; rfl)), rfl⟩

/-- The steps to the corners. -/
def corn4 (h : Int) : List (Int × Int) := [(-h, -h), (h, -h), (-h, h), (h, h)]
/-- A height between corners. -/
def diaV (n : Nat) (hs : List Nat) (r : Nat) (s : Int) (x y h : Int) : Nat :=
  fop .add .f32 (fop .mul .f32 (cn .f32 1048576000) (arS n hs x y (corn4 h) (0, 0)).1) (fop .mul .f32 r (drawnF s))
/-- A height between sides. -/
def sqV (n : Nat) (hs : List Nat) (r : Nat) (s : Int) (x y h : Int) : Nat :=
  fop .add .f32 (fop .quo .f32 (arS n hs x y (sides4 h) (0, 0)).1 (fm (arS n hs x y (sides4 h) (0, 0)).2)) (fop .mul .f32 r (drawnF s))
def dx1 (n : Nat) (r : Nat) (h y : Int) : Nat → Int → List Nat × Int → List Nat × Int
  | 0, _, st => st
  | f + 1, x, st => if x < n then dx1 n r h y f (x + 2 * h) (st.1.set (y * n + x).toNat (diaV n st.1 r (nextI st.2) x y h), nextI st.2) else st
def dy1 (n : Nat) (r : Nat) (h : Int) : Nat → Int → List Nat × Int → List Nat × Int
  | 0, _, st => st
  | f + 1, y, st => if y < n then dy1 n r h f (y + 2 * h) (dx1 n r h y 17 h st) else st
def dx2 (n : Nat) (r : Nat) (h y : Int) : Nat → Int → List Nat × Int → List Nat × Int
  | 0, _, st => st
  | f + 1, x, st => if x < n then dx2 n r h y f (x + h) (if (x / h + y / h) % 2 = 0 then st else (st.1.set (y * n + x).toNat (sqV n st.1 r (nextI st.2) x y h), nextI st.2)) else st
def dy2 (n : Nat) (r : Nat) (h : Int) : Nat → Int → List Nat × Int → List Nat × Int
  | 0, _, st => st
  | f + 1, y, st => if y < n then dy2 n r h f (y + h) (dx2 n r h y 17 0 st) else st
def dhh (n : Nat) (fd : Nat) : Nat → Int → Nat → List Nat × Int → List Nat × Int
  | 0, _, _, st => st
  | f + 1, h, r, st => if 1 ≤ h then dhh n fd f (h / 2) (fop .mul .f32 r fd) (dy2 n r h 17 0 (dy1 n r h 17 h st)) else st
section
variable {n r fd : Nat} {h x y : Int} {f : Nat} {st : List Nat × Int}
theorem dx1_go (hx : x < n) : dx1 n r h y (f + 1) x st = dx1 n r h y f (x + 2 * h) (st.1.set (y * n + x).toNat (diaV n st.1 r (nextI st.2) x y h), nextI st.2) := by
  show (if _ then _ else _) = _
  rw [if_pos hx]
theorem dx1_end (hx : ¬ x < n) : dx1 n r h y f x st = st := by
  cases f
  · rfl
  · show (if _ then _ else _) = _
    rw [if_neg hx]
theorem dy1_go (hy : y < n) : dy1 n r h (f + 1) y st = dy1 n r h f (y + 2 * h) (dx1 n r h y 17 h st) := by
  show (if _ then _ else _) = _
  rw [if_pos hy]
theorem dy1_end (hy : ¬ y < n) : dy1 n r h f y st = st := by
  cases f
  · rfl
  · show (if _ then _ else _) = _
    rw [if_neg hy]
theorem dx2_go (hx : x < n) (hp : ¬ (x / h + y / h) % 2 = 0) : dx2 n r h y (f + 1) x st = dx2 n r h y f (x + h) (st.1.set (y * n + x).toNat (sqV n st.1 r (nextI st.2) x y h), nextI st.2) := by
  show (if _ then _ else _) = _
  rw [if_pos hx, if_neg hp]
theorem dx2_skip (hx : x < n) (hp : (x / h + y / h) % 2 = 0) : dx2 n r h y (f + 1) x st = dx2 n r h y f (x + h) st := by
  show (if _ then _ else _) = _
  rw [if_pos hx, if_pos hp]
theorem dx2_end (hx : ¬ x < n) : dx2 n r h y f x st = st := by
  cases f
  · rfl
  · show (if _ then _ else _) = _
    rw [if_neg hx]
theorem dy2_go (hy : y < n) : dy2 n r h (f + 1) y st = dy2 n r h f (y + h) (dx2 n r h y 17 0 st) := by
  show (if _ then _ else _) = _
  rw [if_pos hy]
theorem dy2_end (hy : ¬ y < n) : dy2 n r h f y st = st := by
  cases f
  · rfl
  · show (if _ then _ else _) = _
    rw [if_neg hy]
theorem dhh_go (hh : 1 ≤ h) : dhh n fd (f + 1) h r st = dhh n fd f (h / 2) (fop .mul .f32 r fd) (dy2 n r h 17 0 (dy1 n r h 17 h st)) := by
  show (if _ then _ else _) = _
  rw [if_pos hh]
theorem dhh_end (hh : ¬ 1 ≤ h) : dhh n fd f h r st = st := by
  cases f
  · rfl
  · show (if _ then _ else _) = _
    rw [if_neg hh]
end
theorem cl_set (ys : List Nat) (j v : Nat) : cl (ys.set j v) = (cl ys).set j (cn .f32 v) := by unfold cl; rw [List.map_set]
theorem fm_cn (k : Nat) : cn .f32 (fm k) = fm k := cn_of_not (fm_num k)
theorem dia_step1 {n R h y f x j sm kk dv : Nat} {sq : Int} {ys : List Nat} {T : List Nat × Int} (v : Nat) (hv : cn .f32 v = fop .add .f32 (fop .mul .f32 (cn .f32 1048576000) (cn .f32 sm)) (fop .mul .f32 (cn .f32 R) (cn .f32 dv)))
    (es : (cn .f32 sm, kk) = arS n (cl ys) x y (corn4 h) (0, 0)) (ed : cn .f32 dv = drawnF (nextI sq)) (hj : (y : Int) * n + x = j)
    (H : dx1 n (cn .f32 R) h y f ((x : Int) + 2 * h) ((cl ys).set ((y : Int) * n + x).toNat (diaV n (cl ys) (cn .f32 R) (nextI sq) x y h), nextI sq) = T) :
    dx1 n (cn .f32 R) h y f ((x + 2 * h : Nat) : Int) (cl (ys.set j v), nextI sq) = T := by
  rw [← H, cl_set, hv, hj, Int.toNat_natCast]
  unfold diaV
  rw [← es, ← ed]
  push_cast
  rfl
theorem dia_step2 {n R h y f x j sm kk dv : Nat} {sq : Int} {ys : List Nat} {T : List Nat × Int} (v : Nat) (hv : cn .f32 v = fop .add .f32 (fop .quo .f32 (cn .f32 sm) (cn .f32 (fm kk))) (fop .mul .f32 (cn .f32 R) (cn .f32 dv)))
    (es : (cn .f32 sm, kk) = arS n (cl ys) x y (sides4 h) (0, 0)) (ed : cn .f32 dv = drawnF (nextI sq)) (hj : (y : Int) * n + x = j)
    (H : dx2 n (cn .f32 R) h y f ((x : Int) + h) ((cl ys).set ((y : Int) * n + x).toNat (sqV n (cl ys) (cn .f32 R) (nextI sq) x y h), nextI sq) = T) :
    dx2 n (cn .f32 R) h y f ((x + h : Nat) : Int) (cl (ys.set j v), nextI sq) = T := by
  rw [← H, cl_set, hv, hj, Int.toNat_natCast, fm_cn]
  unfold sqV
  rw [← es, ← ed]
  push_cast
  rfl
/-- The sheet's side. -/
def sideN (p : Int) : Nat := 2 ^ p.toNat + 1
def dia0 (n : Nat) (cs : List Nat) : List Nat := ((((List.replicate (n * n) 0).set 0 (cs.getD 0 0)).set (n - 1) (cs.getD 1 0)).set ((n - 1) * n) (cs.getD 2 0)).set (n * n - 1) (cs.getD 3 0)
def diaT (p : Int) (cs : List Nat) (rf fd : Nat) (sd : Int) : List Nat × Int := dhh (sideN p) fd 9 (((sideN p : Nat) : Int) / 2) rf (dia0 (sideN p) cs, sd)
def diaG (p : Int) (cs : List Nat) (rf fd : Nat) (sd : Int) : Bool :=
  decide (1 ≤ p ∧ p ≤ 4) && (decide (cs.length = 4) && (cs.all finB && (finB rf && (geB .f32 rf (cn .f32 0) && (shareB fd && decide (0 ≤ sd ∧ sd ≤ 2147483647))))))
def diaB (p : Int) (cs : List Nat) (rf fd : Nat) (sd : Int) : Bool := diaG p cs rf fd sd && shC (sideN p) (sideN p) (diaT p cs rf fd sd).1
/-- What is given: a sheet, a seed, a Boolean. -/
def SdR (w : World) (sw sh : Int) (l : List Nat) (sd : Int) (ok : Bool) (e : Ending) (w' : World) : Prop :=
  ∃ A c xs, e = .returned (.tuple #[shv sw sh A xs.length c, .int .i64 sd, .bool ok]) ∧ cl xs = l ∧ OwnS w.heap.size w' A (xs.map fv) ∧ Below w.heap.size w w'
def DiaR (w : World) (p : Int) (cs : List Nat) (rf fd : Nat) (sd : Int) : Ending → World → Prop :=
  SdR w (if diaB p cs rf fd sd then sideN p else 0) (if diaB p cs rf fd sd then sideN p else 0) (if diaB p cs rf fd sd then (diaT p cs rf fd sd).1 else []) (if diaB p cs rf fd sd then (diaT p cs rf fd sd).2 else 0) (diaB p cs rf fd sd)
theorem dia_no {p : Int} {cs : List Nat} {rf fd : Nat} {sd : Int} (h : diaB p cs rf fd sd = false) {w w' : World} (k : Below w.heap.size w w') : DiaR w p cs rf fd sd (.returned (.tuple #[shv 0 0 none 0 0, .int .i64 0, .bool false])) w' := by
  unfold DiaR
  rw [h]
  exact ⟨none, 0, [], rfl, rfl, OwnS.nil _, k⟩
theorem dia_noG {p : Int} {cs : List Nat} {rf fd : Nat} {sd : Int} (h : diaG p cs rf fd sd = false) : diaB p cs rf fd sd = false := by
  unfold diaB; rw [h, Bool.false_and]
theorem dia_yes {p : Int} {cs : List Nat} {rf fd : Nat} {sd : Int} (h : diaB p cs rf fd sd = true) {w w' : World} {A : Option Addr} {c : Nat} {xs : List Nat} (hx : cl xs = (diaT p cs rf fd sd).1) (ho : OwnS w.heap.size w' A (xs.map fv)) (k : Below w.heap.size w w') :
    DiaR w p cs rf fd sd (.returned (.tuple #[shv (sideN p) (sideN p) A xs.length c, .int .i64 (diaT p cs rf fd sd).2, .bool true])) w' := by
  unfold DiaR
  rw [h]
  exact ⟨A, c, xs, rfl, hx, ho, k⟩
theorem sideN_cases {p : Int} (h : 1 ≤ p ∧ p ≤ 4) : (p = 1 ∧ sideN p = 3) ∨ (p = 2 ∧ sideN p = 5) ∨ (p = 3 ∧ sideN p = 9) ∨ (p = 4 ∧ sideN p = 17) := by
  have : p = 1 ∨ p = 2 ∨ p = 3 ∨ p = 4 := by omega
  rcases this with rfl | rfl | rfl | rfl
  · exact .inl ⟨rfl, rfl⟩
  · exact .inr (.inl ⟨rfl, rfl⟩)
  · exact .inr (.inr (.inl ⟨rfl, rfl⟩))
  · exact .inr (.inr (.inr ⟨rfl, rfl⟩))
end Go.Proofs.Ytenepnbickpcjaa
