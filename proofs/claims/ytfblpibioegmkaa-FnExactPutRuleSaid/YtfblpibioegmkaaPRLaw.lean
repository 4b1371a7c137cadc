/- The law's walk of PutRule. -/
import Derived.Test.YtfblpibioegmkaaPG
import Derived.Test.YtfblpibioegmkaaSGLaw
import Derived.Deep.RegionHeld3
import Derived.BigRegion
import Derived.Deep.CutRange
namespace Go.Proofs.Ytfblpibioegmkaa
open Go.RowKit

/-- Rules in memory of their own. -/
def OwnQ (w : World) (B : Nat) (A : Option Addr) (l : List RuleV) : Prop := RRd w A l ∧ ∀ a, A = some a → ∃ b, a = ⟨b, 0, none⟩ ∧ B ≤ b ∧ b < w.heap.size ∧ Wr w b 0 (2 * l.length)
theorem OwnQ.of {w : World} {B : Nat} {A : Option Addr} {c : Nat} {l : List RuleV} (h : w.ownsRow B 55 2 (.slice A l.length c) l.length (l.flatMap rv)) : OwnQ w B A l := by
  obtain ⟨A', c', e, hr⟩ := own_rrd h
  injection e with e1 _ _
  subst e1
  refine ⟨hr, fun a ha => ?_⟩
  subst ha
  rcases h.2 with ⟨h0, _⟩ | ⟨g, cap, cur, e, hB, hg, _⟩
  · injection h0 with h0
    cases h0
  · injection e with e1 e2 e3
    injection e1 with e1
    subst e1
    exact ⟨g, rfl, hB, (Array.getElem?_eq_some_iff.1 hg).1, wr_own2 h⟩
theorem OwnQ.keep {S : Nat → Prop} {w w' : World} {B : Nat} {A : Option Addr} {l : List RuleV} (h : OwnQ w B A l) (k : Keep S w w') (hs : ∀ b, A = some ⟨b, 0, none⟩ → ¬ S b) : OwnQ w' B A l := by
  refine ⟨h.1.keep k (fun b o e => ?_), fun a ha => ?_⟩
  · obtain ⟨b', e', _⟩ := h.2 _ e
    injection e' with e1 e2
    subst e1; subst e2
    exact hs _ e
  · obtain ⟨b, e, h1, h2, h3⟩ := h.2 a ha
    subst e
    exact ⟨b, rfl, h1, Nat.lt_of_lt_of_le h2 k.size, h3.keep k h2 (hs b ha)⟩
theorem OwnQ.below {w w' : World} {B : Nat} {A : Option Addr} {l : List RuleV} (h : OwnQ w B A l) (k : Below w.heap.size w w') : OwnQ w' B A l := h.keep (Keep.of_below (S := fun _ => False) k) (fun _ _ => id)
theorem OwnQ.less {w : World} {B B' : Nat} {A : Option Addr} {l : List RuleV} (h : OwnQ w B A l) (hb : B' ≤ B) : OwnQ w B' A l :=
  ⟨h.1, fun a ha => by obtain ⟨b, e, h1, h2⟩ := h.2 a ha; exact ⟨b, e, by omega, h2⟩⟩
def PutQ (w : World) (su : ByteArray) (l : List RuleV) (ok : Bool) (e : Ending) (w' : World) : Prop :=
  ∃ A' c', e = .returned (.tuple #[.agg #[.string su, .slice A' l.length c'], .bool ok]) ∧ OwnQ w' w.heap.size A' l ∧ Below w.heap.size w w'
def putS0 (s : ByteArray) (o : Option (List RuleV)) : ByteArray := match o with | none => ⟨#[]⟩ | some _ => s
theorem putQ_of {w : World} {s : ByteArray} {o : Option (List RuleV)} {e : Ending} {w' : World} (h : PutR w s o e w') : PutQ w (putS0 s o) (o.getD []) o.isSome e w' := by
  obtain ⟨k, h⟩ := h
  cases o with
  | none => exact ⟨none, 0, h, ⟨fun i r h => by simp at h, fun a h => by cases h⟩, k⟩
  | some l =>
    obtain ⟨v, h, ho⟩ := h
    obtain ⟨A', c', rfl, _⟩ := own_rrd ho
    exact ⟨A', c', h, OwnQ.of ho, k⟩
theorem putV_len (s : ByteArray) (rs : List RuleV) (r : RuleV) : ((putV s rs r).getD []).length ≤ 9 := by
  unfold putV
  cases hG : gramB s rs
  · exact Nat.zero_le _
  · have := (gram_parts hG).1
    have := putL_len (h := fun x : RuleV => hdI x.1) (r := r) (l := rs)
    split
    · split
      · show List.length (putL _ r rs) ≤ 9
        omega
      · exact Nat.zero_le _
    · exact Nat.zero_le _
theorem four {w x : World} {p q : Nat} {s : ByteArray} {A : Option Addr} {n c : Nat} {r : RuleV} (k : Below w.heap.size w x) (hp : p < w.heap.size) (hq : q < w.heap.size)
    (h : w.cell? ⟨p, 0, none⟩ = some (.string s) ∧ w.cell? ⟨p, 1, none⟩ = some (.slice A n c) ∧ w.cell? ⟨q, 0, none⟩ = some (.string r.1) ∧ w.cell? ⟨q, 1, none⟩ = some (.string r.2)) :
    x.cell? ⟨p, 0, none⟩ = some (.string s) ∧ x.cell? ⟨p, 1, none⟩ = some (.slice A n c) ∧ x.cell? ⟨q, 0, none⟩ = some (.string r.1) ∧ x.cell? ⟨q, 1, none⟩ = some (.string r.2) := by
  obtain ⟨h0, h1, h3, h4⟩ := h
  exact ⟨(k.cell hp).trans h0, (k.cell hp).trans h1, (k.cell hq).trans h3, (k.cell hq).trans h4⟩
theorem below_two {w x : World} {B p : Nat} {u v : Value} (k : Below B w x) (hp : B ≤ p) : Below B w ((x.setCell ⟨p, 0, none⟩ u).setCell ⟨p, 1, none⟩ v) := (k.setCell hp _).setCell hp _
theorem box_put {w : World} {p : Nat} (h : Can w p) (s : ByteArray) {A : Option Addr} {n c : Nat} : Box ((w.setCell ⟨p, 0, none⟩ (.string s)).setCell ⟨p, 1, none⟩ (.slice A n c)) p s A n c :=
  ⟨by simpa [World.setCell] using h.1, (h.read _ _).1, (h.read _ _).2⟩
theorem own_put {w : World} {B q : Nat} {A : Option Addr} {l : List RuleV} {u v : Value} (h : OwnQ w B A l) (hq : q < B) : OwnQ ((w.setCell ⟨q, 0, none⟩ u).setCell ⟨q, 1, none⟩ v) B A l :=
  h.keep (S := (· = q)) (((Keep.refl (· = q) w).setCell (p := ⟨q, 0, none⟩) (.inl rfl) u).setCell (p := ⟨q, 1, none⟩) (.inl rfl) v) (fun b e hb => by
    obtain ⟨b', e', h1, _⟩ := h.2 _ e
    injection e' with e1 _
    omega)
theorem own_ne {w : World} {B q : Nat} {A : Option Addr} {l : List RuleV} (h : OwnQ w B A l) (hq : w.heap.size ≤ q) : ∀ o, A ≠ some ⟨q, o, none⟩ := fun o e => by
  obtain ⟨b, e', _, h2, _⟩ := h.2 _ e
  injection e' with e1 _
  omega
theorem own_ne2 {w : World} {B q : Nat} {A : Option Addr} {l : List RuleV} (h : OwnQ w B A l) (hq : q < B) : ∀ o, A ≠ some ⟨q, o, none⟩ := fun o e => by
  obtain ⟨b, e', h1, _⟩ := h.2 _ e
  injection e' with e1 _
  omega
theorem own_lt {w : World} {B b : Nat} {A : Option Addr} {l : List RuleV} (h : OwnQ w B A l) (e : A = some ⟨b, 0, none⟩) : B ≤ b ∧ b < w.heap.size := by
  obtain ⟨b', e', h1, h2, _⟩ := h.2 _ e
  injection e' with e1 _
  subst e1
  exact ⟨h1, h2⟩
theorem Box.keep {S : Nat → Prop} {w w' : World} {p : Nat} {s : ByteArray} {A : Option Addr} {n c : Nat} (h : Box w p s A n c) (k : Keep S w w') (hs : ¬ S p) : Box w' p s A n c :=
  ⟨Nat.lt_of_lt_of_le h.lt k.size, (k.cell (p := ⟨p, 0, none⟩) h.lt hs).trans h.c0, (k.cell (p := ⟨p, 1, none⟩) h.lt hs).trans h.c1⟩
theorem RBox.keep {S : Nat → Prop} {w w' : World} {p : Nat} {r : RuleV} (h : RBox w p r) (k : Keep S w w') (hs : ¬ S p) : RBox w' p r :=
  ⟨Nat.lt_of_lt_of_le h.lt k.size, (k.cell (p := ⟨p, 0, none⟩) h.lt hs).trans h.c0, (k.cell (p := ⟨p, 1, none⟩) h.lt hs).trans h.c1⟩
theorem markNone (c : Nat) (w : World) : Calls Try.prog 55 #[.slice none 0 c, .int .i64 1] w fun e w' => e = .returned (.int .i64 1) ∧ Below w.heap.size w w' := by
  go_enter Try.func55, Try.ntmps55
  go_wp2
  go_loopw [1, 5] (fun q i wr => i = .int .i64 0 ∧ q = .int .i64 1 ∧ Below w.heap.size w wr) (fun _ _ _ => 0)
  case atStart => exact ⟨rfl, rfl, Below.refl _ _⟩
  case round =>
    obtain ⟨rfl, rfl, hb⟩ := hrel
    go_wp2
    go_ret
    exact ⟨rfl, hb⟩
theorem markQ_any (u : ByteArray) (A : Option Addr) (c : Nat) (l : List RuleV) (B : Nat) (w : World) (h : OwnQ w B A l) (hl : l.length ≤ 9) :
    Calls Try.prog 20 #[.agg #[.string u, .slice A l.length c], .int .i64 1] w fun e w' => e = .returned (.int .i64 (1 + 2 * l.length : Nat)) ∧ Keep (fun b => A = some ⟨b, 0, none⟩) w w' ∧ RRd w' A (marks 1 l.length) := by
  cases A with
  | none =>
    have e : l = [] := by
      cases l with
      | nil => rfl
      | cons x l =>
        obtain ⟨b, o, e, _⟩ := h.1 0 x rfl
        cases e
    subst e
    show Calls Try.prog 20 #[.agg #[.string u, .slice none 0 c], .int .i64 1] w _
    go_enter Try.func20, Try.ntmps20
    go_wp2_with fail
    refine (markNone c _).mono ?_
    rintro e w1 ⟨rfl, k⟩
    have K := Below.step (below_alloc w _) k
    clear k
    go_wp2
    go_ret
    exact ⟨rfl, Keep.of_below K, fun i r h => by simp [marks] at h⟩
  | some a =>
    obtain ⟨b, rfl, h1, h2, h3⟩ := h.2 a rfl
    refine (markGrammar_at u b l.length c 1 1 rfl w h2 h3 (by decide) (by decide) (by omega)).mono ?_
    rintro e w1 ⟨rfl, k, m⟩
    refine ⟨rfl, ⟨k.os, k.tape, k.output, k.size, fun j hj hs => k.block j hj (fun e => hs (by rw [e]))⟩, m⟩
theorem canz_new (w : World) (t : TypeId) : Can (w.alloc (.cells #[.string ⟨#[]⟩, .slice none 0 0] t)) w.heap.size := can_new _ _ _ _ _ rfl
theorem canz_newd (w : World) (t : TypeId) : Can (w.alloc (.cells #[.string ⟨#[]⟩, .slice none 0 0] t)).drew w.heap.size := canz_new w t
theorem below_allocd (w : World) (o : Obj) : Below w.heap.size w (w.alloc o).drew := (below_alloc w o).drew
set_option maxRecDepth 100000 in
set_option maxHeartbeats 8000000 in
theorem putLaw (s : ByteArray) (A : Option Addr) (c : Nat) (rs : List RuleV) (r : RuleV) (w : World) (hA : RRd w A rs) (hn : rs.length ≤ maxLen) (hs : s.size ≤ maxLen) (hz : ∀ r ∈ rs, r.1.size ≤ maxLen ∧ r.2.size ≤ maxLen) (hr1 : r.1.size ≤ maxLen) (hr2 : r.2.size ≤ maxLen) :
    Calls Try.prog 13 #[.agg #[.string s, .slice A rs.length c], .agg #[.string r.1, .string r.2]] w fun e w' => e = .returned (.bool true) ∧ Below w.heap.size w w' := by
  have S : ∀ (A : Option Addr) (c : Nat) (w : World) (hA : RRd w A rs), Calls Try.prog 44 #[.agg #[.string s, .slice A rs.length c], .agg #[.string r.1, .string r.2]] w (PutQ w (putS0 s (putV s rs r)) ((putV s rs r).getD []) (putV s rs r).isSome) := fun A c w hA => (specPut_any s A c rs r w hA hn hs hz hr1 hr2).mono fun e w' h => putQ_of h
  have I : ∀ (A : Option Addr) (c : Nat) (w : World) (hA : RRd w A rs), Calls Try.prog 46 #[.agg #[.string s, .slice A rs.length c], .agg #[.string r.1, .string r.2]] w (PutQ w (putS0 s (putV s rs r)) ((putV s rs r).getD []) (putV s rs r).isSome) := fun A c w hA => (implPut_any s A c rs r w hA hn hs hz hr1 hr2).mono fun e w' h => putQ_of h
  have hll := putV_len s rs r
  generalize putS0 s (putV s rs r) = su at S I
  generalize (putV s rs r).isSome = ok at S I
  generalize (putV s rs r).getD [] = l at S I hll
  have K : Below w.heap.size w ((w.alloc (.cells #[.string s, .slice A rs.length c] 32)).alloc (.cells #[.string r.1, .string r.2] 51)) := Below.step (below_alloc _ _) (below_alloc _ _)
  have bA := (box_new w s A rs.length c 32 _ rfl).below (below_alloc _ (.cells #[.string r.1, .string r.2] 51))
  have bR := rbox_new (w.alloc (.cells #[.string s, .slice A rs.length c] 32)) r 51 (w.heap.size + 1) (by simp)
  go_enter Try.func13, Try.ntmps13
  go_wp2_with fail
  refine (szGrammar_any s A c rs _ _ (hA.below K) hn (by omega) (by omega) hs hz).mono ?_
  rintro e w1 ⟨n1, rfl, hl0, k⟩
  replace bA := bA.below k
  replace bR := bR.below k
  replace K := Below.step K k
  clear k
  by_cases hneg : n1 < 0
  · go_wp2
    go_ret
    exact ⟨rfl, K⟩
  · have hl : rs.length ≤ 1048576 := by have := hl0 (by omega); unfold gwt at this; omega
    have hl1 : n1 ≤ 1048576 := by have := hl0 (by omega); omega
    clear hl0
    obtain ⟨r_, r0, r1⟩ := bR
    go_wp2_with fail
    refine (szRule_any r n1 _ (by omega) (by omega) hr1 hr2).mono ?_
    rintro e w2 ⟨n2, rfl, _, k⟩
    have bR := (RBox.mk r_ r0 r1).below k
    replace bA := bA.below k
    replace K := Below.step K k
    clear k r_ r0 r1
    by_cases hneg2 : n2 < 0
    · go_wp2
      go_ret
      exact ⟨rfl, K⟩
    go_wp2_with fail
    have hAW : RRd w2 A rs := hA.below K
    have s0 := And.intro bA.c0 (And.intro bA.c1 (And.intro bR.c0 bR.c1))
    have lp := bA.lt
    have lq := bR.lt
    go_cut [6, 7] from 26 to 33 (fun s10 s11 wx => ∃ q AA cc, s10 = .pointer (some ⟨q, 0, none⟩) ∧ s11 = .bool ok ∧ Box wx q su AA l.length cc ∧ OwnQ wx w2.heap.size AA l ∧ (∀ o, AA ≠ some ⟨q, o, none⟩) ∧ w2.heap.size ≤ q ∧ Below w2.heap.size w2 wx)
    case first =>
      have tok1 : True := trivial
      have B0 : Below w2.heap.size w2 w2.drew := (Below.refl _ _).drew
      go_region_held3 (fun w' => w'.cell? ⟨w.heap.size, 0, none⟩ = some (.string s) ∧ w'.cell? ⟨w.heap.size, 1, none⟩ = some (.slice A rs.length c) ∧ w'.cell? ⟨w.heap.size + 1, 0, none⟩ = some (.string r.1) ∧ w'.cell? ⟨w.heap.size + 1, 1, none⟩ = some (.string r.2))
        (first | (exact s0) | (exact four (by first | with_reducible exact BP | with_reducible exact BR | with_reducible exact BG | exact Below.step BP (below_alloc _ _) | exact Below.step BR (below_alloc _ _) | exact Below.step BG (below_alloc _ _) | exact below_two BP (by omega) | exact (below_alloc _ _).drew) lp lq s0) | go_keep)
        (first
        | (go_at_call 28; have _t := tok1; clear tok1; refine (toGrammar_any s A c rs _ (hAW.below (by first | exact B0 | exact BR | exact (below_alloc _ _).drew | exact Below.step BR (below_alloc _ _))) (by omega)).mono ?_; rintro e y1 ⟨g1, c1, rfl, _, _, oG, _, k1⟩; have BG : Below w2.heap.size w2 y1 := (by first | exact Below.step B0 k1 | exact Below.step BR k1 | exact Below.step (below_alloc _ _).drew k1 | exact Below.step (Below.step BR (below_alloc _ _)) k1); have zG := BG.size; (first | (have bz1 := Can.below bz2 k1) | (have bz1 := Can.below bz3 k1) | (have bz1 : Can _ _ := (by with_reducible exact (canz_new _ _).below k1)) | (have bz1 : Can _ _ := (by with_reducible exact (canz_newd _ _).below k1)) | skip); clear k1)
        | (go_at_call 45; refine (toRule_any r _).mono ?_; rintro e y2 ⟨rfl, k2⟩; have BR : Below w2.heap.size w2 y2 := (by first | exact Below.step B0 k2 | exact Below.step BG k2 | exact Below.step (below_alloc _ _).drew k2 | exact Below.step (Below.step BG (below_alloc _ _)) k2); have zR := BR.size; (first | (have oGR := RRd.below oG k2) | (have oGR := RRd.below (RRd.below oG (below_alloc _ _)) k2) | skip); (first | (have bz2 := Can.below bz1 k2) | (have bz2 := Can.below bz3 k2) | (have bz2 : Can _ _ := (by with_reducible exact (canz_new _ _).below k2)) | (have bz2 : Can _ _ := (by with_reducible exact (canz_newd _ _).below k2)) | skip); clear k2)
        | (go_at_call 44; refine (S _ _ _ (by first | exact oGR | exact oGR.below (below_alloc _ _) | exact oG | exact oG.below (below_alloc _ _))).mono ?_; rintro e y3 ⟨AP, cP, rfl, oP, k3⟩; have BP : Below w2.heap.size w2 y3 := (by first | exact Below.step BR k3 | exact Below.step BG k3 | exact Below.step (Below.step BR (below_alloc _ _)) k3 | exact Below.step (Below.step BG (below_alloc _ _)) k3); have zP := (by first | exact And.intro BR.size k3.size | exact And.intro BG.size k3.size); (first | (have bz3 := Can.below bz2 k3) | (have bz3 := Can.below bz1 k3) | (have bz3 : Can _ _ := (by with_reducible exact (canz_new _ _).below k3)) | (have bz3 : Can _ _ := (by with_reducible exact (canz_newd _ _).below k3)) | skip); (first | (have Z := bz3; obtain ⟨z_, ⟨zv0, z0⟩, ⟨zv1, z1⟩, zf0, zf1⟩ := bz3) | skip); have HOP := Lib.hid oP; clear k3 oP))
      all_goals
        go_wp2
        try go_meet
        try case rel =>
          first
            | exact ⟨_, AP, cP, rfl, rfl, box_new _ _ _ _ _ _ _ rfl, (HOP.out.below (below_alloc _ _)).less (by first | omega | (rw [World.size_alloc]; omega)), own_ne HOP.out (Nat.le_refl _), by omega, Below.step BP (below_alloc _ _)⟩
            | exact ⟨_, AP, cP, rfl, rfl, box_put Z _, (own_put HOP.out (by first | exact bz2.1 | exact bz1.1 | (rw [World.size_alloc]; omega))).less (by first | omega | (rw [World.size_alloc]; omega)), own_ne2 HOP.out (by first | exact bz2.1 | exact bz1.1 | (rw [World.size_alloc]; omega)), by omega, below_two BP (by omega)⟩
    case rest =>
    obtain ⟨w3, rfl⟩ : ∃ w5, w5 = wc := ⟨wc, rfl⟩
    obtain ⟨pW, AW, cW, rfl, rfl, nbW, noW, nbWn, nbWz, kc⟩ := hcut
    clear s0 lp lq hAW
    replace bA := bA.below kc
    replace bR := bR.below kc
    replace K := Below.step K kc
    have bW := nbW
    have oW := noW
    have bWn := nbWn
    have bWz := nbWz
    clear nbW noW kc nbWn nbWz
    have hW : ∀ b, AW = some ⟨b, 0, none⟩ → w2.heap.size ≤ b ∧ b < w3.heap.size := fun b e => own_lt oW e
    have zA2 := bA.lt; have zR2 := bR.lt; have zW2 := bW.lt
    have bA_0 := bA.c0; have bA_1 := bA.c1; have bA_3 := bA.lt
    go_wp2_with fail
    refine (toGrammar_any s A c rs _ (hA.below K) (by omega)).mono ?_
    rintro e w4 ⟨gx, cx, rfl, gx1, gx2, rX, mX, k⟩
    have oX : OwnQ w4 w3.heap.size (some ⟨gx, 0, none⟩) rs := ⟨rX, fun a h => ⟨gx, by injection h with h; exact h.symm, gx1, gx2, mX⟩⟩
    clear rX mX
    clear bA_0 bA_1 bA_3
    replace bA := bA.below k
    replace bR := bR.below k
    replace bW := bW.below k
    replace oW := oW.below k
    replace K := Below.step K k
    clear k
    go_wp2_with fail
    obtain ⟨v4, hv4⟩ : ∃ v, v = w4.alloc (.cells #[.string s, .slice (some ⟨gx, 0, none⟩) rs.length cx] 25) := ⟨_, rfl⟩
    have ka : Below w4.heap.size w4 v4 := by rw [hv4]; exact below_alloc _ _
    obtain ⟨px, hpx⟩ : ∃ p, p = w4.heap.size := ⟨_, rfl⟩
    have nX : Box v4 px s (some ⟨gx, 0, none⟩) rs.length cx := by rw [hv4]; exact box_new _ _ _ _ _ _ _ hpx
    have zpx : w4.heap.size ≤ px := by omega
    have zpx2 : px < v4.heap.size := nX.lt
    rw [← hv4, ← hpx]
    clear hv4 hpx
    replace bA := bA.below ka
    replace bR := bR.below ka
    replace bW := bW.below ka
    replace oW := oW.below ka
    replace oX := oX.below ka
    replace K := Below.step K ka
    have bX := nX
    clear nX ka
    have hAW : RRd v4 (some ⟨gx, 0, none⟩) rs := oX.1
    have s0 := And.intro bX.c0 (And.intro bX.c1 (And.intro bR.c0 bR.c1))
    have lp := bX.lt
    have lq := bR.lt
    go_cut [9, 10] from 36 to 42 (fun s10 s11 wx => ∃ q AA cc, s10 = .pointer (some ⟨q, 0, none⟩) ∧ s11 = .bool ok ∧ Box wx q su AA l.length cc ∧ OwnQ wx v4.heap.size AA l ∧ (∀ o, AA ≠ some ⟨q, o, none⟩) ∧ v4.heap.size ≤ q ∧ Below v4.heap.size v4 wx)
    case first =>
      have tok1 : True := trivial
      have B0 : Below v4.heap.size v4 v4.drew := (Below.refl _ _).drew
      go_region_held3 (fun w' => w'.cell? ⟨px, 0, none⟩ = some (.string s) ∧ w'.cell? ⟨px, 1, none⟩ = some (.slice (some ⟨gx, 0, none⟩) rs.length cx) ∧ w'.cell? ⟨w.heap.size + 1, 0, none⟩ = some (.string r.1) ∧ w'.cell? ⟨w.heap.size + 1, 1, none⟩ = some (.string r.2))
        (first | (exact s0) | (exact four (by first | with_reducible exact BP | with_reducible exact BR | with_reducible exact BG | exact Below.step BP (below_alloc _ _) | exact Below.step BR (below_alloc _ _) | exact Below.step BG (below_alloc _ _) | exact below_two BP (by omega) | exact (below_alloc _ _).drew) lp lq s0) | go_keep)
        (first
        | (go_at_call 45; refine (toRule_any r _).mono ?_; rintro e y2 ⟨rfl, k2⟩; have BR : Below v4.heap.size v4 y2 := (by first | exact Below.step B0 k2 | exact Below.step BG k2 | exact Below.step (below_alloc _ _).drew k2 | exact Below.step (Below.step BG (below_alloc _ _)) k2); have zR := BR.size; (first | (have oGR := RRd.below oG k2) | (have oGR := RRd.below (RRd.below oG (below_alloc _ _)) k2) | skip); (first | (have bz2 := Can.below bz1 k2) | (have bz2 := Can.below bz3 k2) | (have bz2 : Can _ _ := (by with_reducible exact (canz_new _ _).below k2)) | (have bz2 : Can _ _ := (by with_reducible exact (canz_newd _ _).below k2)) | skip); clear k2)
        | (go_at_call 46; refine (I _ _ _ (hAW.below (by first | exact BR | exact Below.step BR (below_alloc _ _)))).mono ?_; rintro e y3 ⟨AP, cP, rfl, oP, k3⟩; have BP : Below v4.heap.size v4 y3 := (by first | exact Below.step BR k3 | exact Below.step BG k3 | exact Below.step (Below.step BR (below_alloc _ _)) k3 | exact Below.step (Below.step BG (below_alloc _ _)) k3); have zP := (by first | exact And.intro BR.size k3.size | exact And.intro BG.size k3.size); (first | (have bz3 := Can.below bz2 k3) | (have bz3 := Can.below bz1 k3) | (have bz3 : Can _ _ := (by with_reducible exact (canz_new _ _).below k3)) | (have bz3 : Can _ _ := (by with_reducible exact (canz_newd _ _).below k3)) | skip); (first | (have Z := bz3; obtain ⟨z_, ⟨zv0, z0⟩, ⟨zv1, z1⟩, zf0, zf1⟩ := bz3) | skip); have HOP := Lib.hid oP; clear k3 oP))
      all_goals
        go_wp2
        try go_meet
        try case rel =>
          first
            | exact ⟨_, AP, cP, rfl, rfl, box_new _ _ _ _ _ _ _ rfl, (HOP.out.below (below_alloc _ _)).less (by first | omega | (rw [World.size_alloc]; omega)), own_ne HOP.out (Nat.le_refl _), by omega, Below.step BP (below_alloc _ _)⟩
            | exact ⟨_, AP, cP, rfl, rfl, box_put Z _, (own_put HOP.out (by first | exact bz2.1 | exact bz1.1 | (rw [World.size_alloc]; omega))).less (by first | omega | (rw [World.size_alloc]; omega)), own_ne2 HOP.out (by first | exact bz2.1 | exact bz1.1 | (rw [World.size_alloc]; omega)), by omega, below_two BP (by omega)⟩
    case rest =>
    obtain ⟨w5, rfl⟩ : ∃ w5, w5 = wc := ⟨wc, rfl⟩
    obtain ⟨pG, AG, cG, rfl, rfl, nbG, noG, nbGn, nbGz, kc⟩ := hcut
    clear s0 lp lq hAW
    replace bA := bA.below kc
    replace bR := bR.below kc
    replace bW := bW.below kc
    replace bX := bX.below kc
    replace oW := oW.below kc
    replace oX := oX.below kc
    replace K := Below.step K kc
    have bG := nbG
    have oG := noG
    have bGn := nbGn
    have bGz := nbGz
    clear nbG noG kc nbGn nbGz
    have hG : ∀ b, AG = some ⟨b, 0, none⟩ → v4.heap.size ≤ b ∧ b < w5.heap.size := fun b e => own_lt oG e
    have bG_0 := bG.c0; have bG_1 := bG.c1; have bG_3 := bG.lt
    have bW_0 := bW.c0; have bW_1 := bW.c1; have bW_3 := bW.lt
    go_wp2_with fail
    refine (eqGrammar_ok su AG AW cG cW l _ oG.1 oW.1 (by unfold maxLen; omega)).mono ?_
    rintro e w6 ⟨rfl, k⟩
    clear bG_0 bG_1 bG_3 bW_0 bW_1 bW_3
    replace bA := bA.below k
    replace bR := bR.below k
    replace bW := bW.below k
    replace bX := bX.below k
    replace bG := bG.below k
    replace oW := oW.below k
    replace oX := oX.below k
    replace oG := oG.below k
    replace K := Below.step K k
    clear k
    have bA_0 := bA.c0; have bA_1 := bA.c1; have bA_3 := bA.lt
    have bX_0 := bX.c0; have bX_1 := bX.c1; have bX_3 := bX.lt
    go_wp2_with fail
    have s0 := And.intro bA.c0 (And.intro bA.c1 (And.intro bX.c0 bX.c1))
    have hAW : RRd w6 A rs := hA.below K
    have hXW : RRd w6 (some ⟨gx, 0, none⟩) rs := oX.1
    have lp := bA.lt; have lq := bX.lt
    go_region_held3 (fun w' => w'.cell? ⟨w.heap.size, 0, none⟩ = some (.string s) ∧ w'.cell? ⟨w.heap.size, 1, none⟩ = some (.slice A rs.length c) ∧ w'.cell? ⟨px, 0, none⟩ = some (.string s) ∧ w'.cell? ⟨px, 1, none⟩ = some (.slice (some ⟨gx, 0, none⟩) rs.length cx))
      (first | (exact s0) | (exact s1) | (exact s2))
      (first
      | (go_at_call 28; refine (toGrammar_any s A c rs _ (by exact hAW) (by omega)).mono ?_; rintro e w7 ⟨g7, c7, rfl, _, _, o7, _, k7⟩; have kk7 : Below w6.heap.size w6 w7 := (Below.refl _ _).drew.trans k7; have s1 := six_below kk7 lp lq s0; have h7 := hXW.below kk7; clear k7)
      | (go_at_call 19; refine (eqGrammar_ok _ _ _ _ _ _ _ h7 o7 hn).mono ?_; rintro e w8 ⟨rfl, k8⟩; have kk8 : Below w6.heap.size w6 w8 := Below.step kk7 k8; have s2 := six_below kk8 lp lq s0; clear k8))
    clear s0 s1 s2 lp lq h7 o7 hAW hXW kk7
    clear bA_0 bA_1 bA_3 bX_0 bX_1 bX_3
    replace bA := bA.below kk8
    replace bR := bR.below kk8
    replace bW := bW.below kk8
    replace bX := bX.below kk8
    replace bG := bG.below kk8
    replace oW := oW.below kk8
    replace oX := oX.below kk8
    replace oG := oG.below kk8
    replace K := Below.step K kk8
    clear kk8
    have bX_0 := bX.c0; have bX_1 := bX.c1; have bX_3 := bX.lt
    go_wp2_with fail
    obtain ⟨_, ex, _, lx, mx⟩ := oX.2 _ rfl
    injection ex with ex _ _; rw [← ex] at lx mx; clear ex
    refine (markGrammar_at s _ rs.length cx 1 1 rfl _ lx mx (by decide) (by decide) (by omega)).mono ?_
    rintro e w9 ⟨rfl, k, _⟩
    clear bX_0 bX_1 bX_3
    clear mx lx oX bX
    replace bA := bA.keep k (fun h => by (have h' : w.heap.size = gx := h); omega)
    replace bR := bR.keep k (fun h => by (have h' : w.heap.size + 1 = gx := h); omega)
    replace bW := bW.keep k (fun h => by (have h' : pW = gx := h); omega)
    replace bG := bG.keep k (fun h => by (have h' : pG = gx := h); omega)
    replace oW := oW.keep k (fun b e h => by (have h' : b = gx := h); have := hW b e; omega)
    replace oG := oG.keep k (fun b e h => by (have h' : b = gx := h); have := hG b e; omega)
    replace K := k.below K (by have := K.size; omega) (fun b h => by (have h' : b = gx := h); omega)
    clear k
    have bG_0 := bG.c0; have bG_1 := bG.c1; have bG_3 := bG.lt
    have bW_0 := bW.c0; have bW_1 := bW.c1; have bW_3 := bW.lt
    go_wp2_with fail
    refine (eqGrammar_ok su AG AW cG cW l _ oG.1 oW.1 (by unfold maxLen; omega)).mono ?_
    rintro e w10 ⟨rfl, k⟩
    clear bG_0 bG_1 bG_3 bW_0 bW_1 bW_3
    replace bA := bA.below k
    replace bR := bR.below k
    replace bW := bW.below k
    replace bG := bG.below k
    replace oW := oW.below k
    replace oG := oG.below k
    replace K := Below.step K k
    clear k
    have bG_0 := bG.c0; have bG_1 := bG.c1; have bG_3 := bG.lt
    go_wp2_with fail
    refine (markQ_any su AG cG l _ _ oG hll).mono ?_
    rintro e w11 ⟨rfl, k, mG⟩
    clear bG_0 bG_1 bG_3
    clear oG
    replace bA := bA.keep k (fun h => by have := hG _ h; omega)
    replace bR := bR.keep k (fun h => by have := hG _ h; omega)
    replace bW := bW.keep k (fun h => by have := hG _ h; omega)
    replace bG := bG.keep k (fun h => bGn _ h)
    replace oW := oW.keep k (fun b e h => by have := hW b e; have := hG b h; omega)
    replace K := k.below K (by have := K.size; omega) (fun b h => by have := hG _ h; omega)
    clear k
    have bG_0 := bG.c0; have bG_1 := bG.c1; have bG_3 := bG.lt
    go_wp2_with fail
    refine (heldGrammar_at su AG l.length cG 1 1 rfl _ mG (by decide) (by decide) (by omega)).mono ?_
    rintro e w12 ⟨rfl, k⟩
    clear bG_0 bG_1 bG_3
    replace bA := bA.below k
    replace bR := bR.below k
    replace bW := bW.below k
    replace bG := bG.below k
    replace oW := oW.below k
    replace mG := RRd.below mG k
    replace K := Below.step K k
    clear k
    go_wp2_with fail
    have hAW : RRd w12 A rs := hA.below K
    have s0 := And.intro bA.c0 (And.intro bA.c1 (And.intro bR.c0 bR.c1))
    have lp := bA.lt
    have lq := bR.lt
    go_cut [14, 15] from 84 to 91 (fun s10 s11 wx => ∃ q AA cc, s10 = .pointer (some ⟨q, 0, none⟩) ∧ s11 = .bool ok ∧ Box wx q su AA l.length cc ∧ OwnQ wx w12.heap.size AA l ∧ (∀ o, AA ≠ some ⟨q, o, none⟩) ∧ w12.heap.size ≤ q ∧ Below w12.heap.size w12 wx)
    case first =>
      have tok1 : True := trivial
      have B0 : Below w12.heap.size w12 w12.drew := (Below.refl _ _).drew
      go_region_held3 (fun w' => w'.cell? ⟨w.heap.size, 0, none⟩ = some (.string s) ∧ w'.cell? ⟨w.heap.size, 1, none⟩ = some (.slice A rs.length c) ∧ w'.cell? ⟨w.heap.size + 1, 0, none⟩ = some (.string r.1) ∧ w'.cell? ⟨w.heap.size + 1, 1, none⟩ = some (.string r.2))
        (first | (exact s0) | (exact four (by first | with_reducible exact BP | with_reducible exact BR | with_reducible exact BG | exact Below.step BP (below_alloc _ _) | exact Below.step BR (below_alloc _ _) | exact Below.step BG (below_alloc _ _) | exact below_two BP (by omega) | exact (below_alloc _ _).drew) lp lq s0) | go_keep)
        (first
        | (go_at_call 28; have _t := tok1; clear tok1; refine (toGrammar_any s A c rs _ (hAW.below (by first | exact B0 | exact BR | exact (below_alloc _ _).drew | exact Below.step BR (below_alloc _ _))) (by omega)).mono ?_; rintro e y1 ⟨g1, c1, rfl, _, _, oG, _, k1⟩; have BG : Below w12.heap.size w12 y1 := (by first | exact Below.step B0 k1 | exact Below.step BR k1 | exact Below.step (below_alloc _ _).drew k1 | exact Below.step (Below.step BR (below_alloc _ _)) k1); have zG := BG.size; (first | (have bz1 := Can.below bz2 k1) | (have bz1 := Can.below bz3 k1) | (have bz1 : Can _ _ := (by with_reducible exact (canz_new _ _).below k1)) | (have bz1 : Can _ _ := (by with_reducible exact (canz_newd _ _).below k1)) | skip); clear k1)
        | (go_at_call 45; refine (toRule_any r _).mono ?_; rintro e y2 ⟨rfl, k2⟩; have BR : Below w12.heap.size w12 y2 := (by first | exact Below.step B0 k2 | exact Below.step BG k2 | exact Below.step (below_alloc _ _).drew k2 | exact Below.step (Below.step BG (below_alloc _ _)) k2); have zR := BR.size; (first | (have oGR := RRd.below oG k2) | (have oGR := RRd.below (RRd.below oG (below_alloc _ _)) k2) | skip); (first | (have bz2 := Can.below bz1 k2) | (have bz2 := Can.below bz3 k2) | (have bz2 : Can _ _ := (by with_reducible exact (canz_new _ _).below k2)) | (have bz2 : Can _ _ := (by with_reducible exact (canz_newd _ _).below k2)) | skip); clear k2)
        | (go_at_call 46; refine (I _ _ _ (by first | exact oGR | exact oGR.below (below_alloc _ _) | exact oG | exact oG.below (below_alloc _ _))).mono ?_; rintro e y3 ⟨AP, cP, rfl, oP, k3⟩; have BP : Below w12.heap.size w12 y3 := (by first | exact Below.step BR k3 | exact Below.step BG k3 | exact Below.step (Below.step BR (below_alloc _ _)) k3 | exact Below.step (Below.step BG (below_alloc _ _)) k3); have zP := (by first | exact And.intro BR.size k3.size | exact And.intro BG.size k3.size); (first | (have bz3 := Can.below bz2 k3) | (have bz3 := Can.below bz1 k3) | (have bz3 : Can _ _ := (by with_reducible exact (canz_new _ _).below k3)) | (have bz3 : Can _ _ := (by with_reducible exact (canz_newd _ _).below k3)) | skip); (first | (have Z := bz3; obtain ⟨z_, ⟨zv0, z0⟩, ⟨zv1, z1⟩, zf0, zf1⟩ := bz3) | skip); have HOP := Lib.hid oP; clear k3 oP))
      all_goals
        go_wp2
        try go_meet
        try case rel =>
          first
            | exact ⟨_, AP, cP, rfl, rfl, box_new _ _ _ _ _ _ _ rfl, (HOP.out.below (below_alloc _ _)).less (by first | omega | (rw [World.size_alloc]; omega)), own_ne HOP.out (Nat.le_refl _), by omega, Below.step BP (below_alloc _ _)⟩
            | exact ⟨_, AP, cP, rfl, rfl, box_put Z _, (own_put HOP.out (by first | exact bz2.1 | exact bz1.1 | (rw [World.size_alloc]; omega))).less (by first | omega | (rw [World.size_alloc]; omega)), own_ne2 HOP.out (by first | exact bz2.1 | exact bz1.1 | (rw [World.size_alloc]; omega)), by omega, below_two BP (by omega)⟩
    case rest =>
    obtain ⟨w13, rfl⟩ : ∃ w5, w5 = wc := ⟨wc, rfl⟩
    obtain ⟨pH, AH, cH, rfl, rfl, nbH, noH, nbHn, nbHz, kc⟩ := hcut
    clear s0 lp lq hAW
    replace bA := bA.below kc
    replace bR := bR.below kc
    replace bW := bW.below kc
    replace bG := bG.below kc
    replace oW := oW.below kc
    replace mG := RRd.below mG kc
    replace K := Below.step K kc
    have bH := nbH
    have oH := noH
    have bHn := nbHn
    have bHz := nbHz
    clear nbH noH kc nbHn nbHz
    have bH_0 := bH.c0; have bH_1 := bH.c1; have bH_3 := bH.lt
    have bW_0 := bW.c0; have bW_1 := bW.c1; have bW_3 := bW.lt
    go_wp2_with fail
    refine (eqGrammar_ok su AH AW cH cW l _ oH.1 oW.1 (by unfold maxLen; omega)).mono ?_
    rintro e w14 ⟨rfl, k⟩
    clear bH_0 bH_1 bH_3 bW_0 bW_1 bW_3
    replace bA := bA.below k
    replace bR := bR.below k
    replace bW := bW.below k
    replace bG := bG.below k
    replace bH := bH.below k
    replace oW := oW.below k
    replace oH := oH.below k
    replace mG := RRd.below mG k
    replace K := Below.step K k
    clear k
    have bG_0 := bG.c0; have bG_1 := bG.c1; have bG_3 := bG.lt
    go_wp2_with fail
    refine (heldGrammar_at su AG l.length cG 1 1 rfl _ mG (by decide) (by decide) (by omega)).mono ?_
    rintro e w15 ⟨rfl, k⟩
    clear bG_0 bG_1 bG_3
    replace bA := bA.below k
    replace bR := bR.below k
    replace bW := bW.below k
    replace bG := bG.below k
    replace bH := bH.below k
    replace oW := oW.below k
    replace oH := oH.below k
    replace mG := RRd.below mG k
    replace K := Below.step K k
    clear k
    go_wp2
    go_ret
    exact ⟨rfl, K⟩
end Go.Proofs.Ytfblpibioegmkaa
