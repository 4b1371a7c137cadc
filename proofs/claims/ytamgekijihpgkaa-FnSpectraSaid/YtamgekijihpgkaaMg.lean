/- Several texts in one: Qo, Qp. -/
import Derived.Test.YtamgekijihpgkaaQn
import Derived.Test.YtamgekijihpgkaaMf
/- The slope of a drawn line's powers: the tables. Plain. -/
namespace Go.Proofs.Ytamgekijihpgkaa
open Go.RowKit Ieee

def wT : List (List Nat) := [[1065353216, 1065353216, 1065353216, 1065353216, 1065353216, 1065353216, 1065353216, 1065353216, 1065353216],
  [1065353216, 1062683901, 1061323927, 1060439283, 1059795600, 1059295686, 1058890434, 1058551792, 1058262330],
  [1065353216, 1060439283, 1058262330, 1056964608, 1055193390, 1053885931, 1052869776, 1052050675, 1051372202],
  [1065353216, 1058551792, 1054907430, 1052050675, 1050222508, 1048939979, 1047392742, 1045906685, 1044713891],
  [1065353216, 1056964608, 1051372202, 1048576000, 1045220556, 1042983594, 1041385765, 1040187392, 1038323256],
  [1065353216, 1054295293, 1048686010, 1043662067, 1040774464, 1037703091, 1035198101, 1033385969, 1032020247],
  [1065353216, 1052050675, 1044713891, 1040187392, 1035414974, 1032542535, 1029515721, 1026884851, 1024963621],
  [1065353216, 1050163184, 1041612143, 1035273459, 1031077752, 1026691684, 1023932403, 1020740859, 1018113054],
  [1065353216, 1048576000, 1038323256, 1031798784, 1025758986, 1021546040, 1017589510, 1015021568, 1011500423]]
def xT : List Nat := [0, 1060205080, 1066180436, 1068593688, 1070465552, 1071994976, 1073288085, 1074075026, 1074569044]
def aT : List Nat := [1078682940, 1083781922, 1087539514, 1091069712, 1093250164, 1095554121]
def eT : List Nat := [1082836816, 1090600248, 1095943208, 1100845900, 1105045380, 1108672076]
def wL (a k : Nat) : Rat := rv .f32 ((wT.getD a []).getD k 0)
def xL (k : Nat) : Rat := rv .f32 (xT.getD k 0)
def aL' (b : Nat) : Rat := rv .f32 (aT.getD b 0)
def eL (b : Nat) : Rat := rv .f32 (eT.getD b 0)
theorem wT_ok : ∀ a, a < 9 → ∀ k, k < 9 → wv (q2 a) (k + 1) = (wT.getD a []).getD k 0 := by decide +kernel
theorem xT_ok : ∀ k, k < 9 → logF (cn .f32 (floatOfInt .f32 ((k + 1 : Nat) : Int))) = xT.getD k 0 := by decide +kernel
theorem aT_ok : ∀ b, b < 6 → sumF (logN (b + 4)) = aT.getD b 0 := by decide +kernel
theorem eT_ok : ∀ b, b < 6 → slE (logN (b + 4)) = eT.getD b 0 := by decide +kernel
def rdn (c : Rat) : Rat := ((c * 65536).floor : Rat) / 65536
def rup (c : Rat) : Rat := (((c * 65536).floor + 1 : Int) : Rat) / 65536
def aA (a b k : Nat) : Rat := wL a k * (((2 * b + 9 : Nat) : Rat) / 2)
def loA (a b k : Nat) : Rat := rdn (aA a b k * aA a b k - dP (aA a b k))
def hiA (a b k : Nat) : Rat := rup (aA a b k * aA a b k + dP (aA a b k))
def okB (a b k : Nat) : Bool := decide (0 ≤ aA a b k) && decide (aA a b k ≤ 19 / 2) && decide (1 / 1024 ≤ loA a b k) && decide (hiA a b k ≤ 1024) && redB (loA a b k) && redB (hiA a b k)
def gG (b k : Nat) : Rat := ((b + 4 : Nat) : Rat) * xL k - aL' b
def upS (a b : Nat) : Nat → Rat
  | 0 => 0
  | k + 1 => upS a b k + (if 0 ≤ gG b k then gG b k * (lnC (hiA a b k) + 3 / 1000000) else gG b k * (lnC (loA a b k) - 3 / 1000000))
def loS (a b : Nat) : Nat → Rat
  | 0 => 0
  | k + 1 => loS a b k + (if 0 ≤ gG b k then gG b k * (lnC (loA a b k) - 3 / 1000000) else gG b k * (lnC (hiA a b k) + 3 / 1000000))
def endB (a b : Nat) : Bool := decide (upS a b (b + 4) ≤ eL b * (-((a : Rat) / 2) + 49 / 1000 * (1 + (a : Rat) / 2) - 2 / 1000)) && decide (eL b * (-((a : Rat) / 2) - 49 / 1000 * (1 + (a : Rat) / 2) + 2 / 1000) ≤ loS a b (b + 4))
theorem ok_all : ∀ a, a < 9 → ∀ b, b < 6 → ∀ k, k < b + 4 → okB a b k = true := by decide +kernel
theorem end_all : ∀ a, a < 9 → ∀ b, b < 6 → endB a b = true := by decide +kernel
end Go.Proofs.Ytamgekijihpgkaa

/- The slope of a drawn line's powers is nearly that with which it was drawn. Plain. -/
namespace Go.Proofs.Ytamgekijihpgkaa
open Go.RowKit Ieee

theorem fop_lt (op : BinOp) (x y : Nat) : fop op .f32 x y < 2 * FloatKind.f32.format.signWeight := by
  have e : 2 * FloatKind.f32.format.signWeight = 2 ^ 32 := by decide +kernel
  rw [e]
  unfold fop
  cases h : floatBits op .f32 x y with
  | none => show qn .f32 < 2 ^ 32; decide +kernel
  | some r =>
    have hr : r < 2 ^ 32 := of_decide_eq_true (floatBits_wf h)
    show cn .f32 r < 2 ^ 32
    cases hn : isN .f32 r
    · rw [cn_of_not hn]; exact hr
    · rw [cn_of_nan hn]; decide +kernel
theorem neg32 {x : Nat} (hx : isF .f32 x) (hl : x < 2 * FloatKind.f32.format.signWeight) : isF .f32 (fneg .f32 x) ∧ rv .f32 (fneg .f32 x) = -rv .f32 x := by
  obtain ⟨r, h1, h2⟩ := word_of FloatKind.f32.format hl
  have hf : fneg .f32 x = Op.negFloat .f32 x := by unfold fneg; rw [hx.num]; rfl
  rw [hf]
  generalize (x / FloatKind.f32.format.signWeight % 2 == 1) = s at h2
  have hn := hx.num
  rw [h2, isN_word .f32 s h1] at hn
  have hle : r ≤ FloatKind.f32.format.infRung := by
    have := of_decide_eq_false hn
    omega
  have hlt : r < FloatKind.f32.format.infRung := by
    rcases Nat.lt_or_eq_of_le hle with h | h
    · exact h
    · exfalso
      rw [h] at h2
      have hr : FloatKind.f32.format.read x = .infinity s := by rw [h2]; cases s <;> decide +kernel
      obtain ⟨_, _, _, a, _⟩ := hx
      rw [hr] at a
      cases a
  have hw : Op.negFloat .f32 x = FloatKind.f32.format.word (!s) r := by rw [h2]; exact neg_word .f32 s h1
  rw [hw]
  refine ⟨isF_word _ hlt, ?_⟩
  unfold rv
  rw [h2, fkey_word .f32 _ hlt, fkey_word .f32 _ hlt]
  generalize rval FloatKind.f32.format r = z
  generalize (2 : Rat) ^ FloatKind.f32.format.leastPlace = u
  cases s
  · simp only [Bool.not_false, if_true, Bool.false_eq_true, if_false, Rat.intCast_neg]
    grind
  · simp only [Bool.not_true, if_true, Bool.false_eq_true, if_false, Rat.intCast_neg]
    grind
/-- The powers' words. -/
def pwW (a b : Nat) (seed : Int) (l : Nat) : Nat := pwF (rF (2 * b + 9) (l + 1) (fun i => oF (q2 a) seed ((2 * b + 9 : Nat) : Int) (b + 4) i) (2 * b + 9)) (iF (2 * b + 9) (l + 1) (fun i => oF (q2 a) seed ((2 * b + 9 : Nat) : Int) (b + 4) i) (2 * b + 9))
def pwN (a b : Nat) (seed : Int) : List Nat := (List.range (b + 4)).map (pwW a b seed)
theorem pwN_len (a b : Nat) (seed : Int) : (pwN a b seed).length = b + 4 := by simp [pwN]
theorem pwN_get {a b i : Nat} {seed : Int} (h : i < (pwN a b seed).length) : (pwN a b seed)[i] = pwW a b seed i := by simp [pwN]
theorem rdn_le (c : Rat) : rdn c ≤ c := by
  have := Rat.floor_le (c * 65536)
  unfold rdn
  grind
theorem le_rup (c : Rat) : c ≤ rup c := by
  have := Rat.lt_floor_add_one (c * 65536)
  unfold rup
  grind
structure PwF (a b : Nat) (p l : Nat) : Prop where
  fin : isF .f32 p
  lo : loA a b l ≤ rv .f32 p
  hi : rv .f32 p ≤ hiA a b l
  pos : 0 < rv .f32 p
  fl : isF .f32 (logF p)
  ll : lnC (loA a b l) - 3 / 1000000 ≤ rv .f32 (logF p)
  lh : rv .f32 (logF p) ≤ lnC (hiA a b l) + 3 / 1000000
  l9 : ab (rv .f32 (logF p)) ≤ 9
theorem amp_eq {a b l : Nat} (ha : a < 9) (hl : l < 9) : amp a (2 * b + 9) (l + 1) = aA a b l := by
  unfold amp aA wR wL
  rw [wT_ok a ha l hl]
theorem pwW_ok {a b l : Nat} {seed : Int} (ha : a < 9) (hb : b < 6) (s0 : 0 ≤ seed) (s1 : seed ≤ 2147483647) (hl : l < b + 4) : PwF a b (pwW a b seed l) l := by
  have hk := ok_all a ha b hb l hl
  unfold okB at hk
  simp only [Bool.and_eq_true, decide_eq_true_eq] at hk
  obtain ⟨⟨⟨⟨⟨k1, k2⟩, k3⟩, k4⟩, k5⟩, k6⟩ := hk
  have F := F_near (n := 2 * b + 9) (l := l + 1) ha rfl hb s0 s1 (by omega) (by omega)
  obtain ⟨h1, hc, ht⟩ := ps_one (sd seed (l + 1))
  have re := F.re
  have im := F.im
  rw [amp_eq ha (by omega)] at re im
  obtain ⟨_, P⟩ := pw_near k1 k2 re im h1 hc ht
  have P' : Ap .f32 (pwW a b seed l) (aA a b l * aA a b l) (dP (aA a b l)) := P
  generalize pwW a b seed l = p at *
  have r1 := rdn_le (aA a b l * aA a b l - dP (aA a b l))
  have r2 := le_rup (aA a b l * aA a b l + dP (aA a b l))
  have e1 : loA a b l = rdn (aA a b l * aA a b l - dP (aA a b l)) := rfl
  have e2 : hiA a b l = rup (aA a b l * aA a b l + dP (aA a b l)) := rfl
  rw [← e1] at r1
  rw [← e2] at r2
  obtain ⟨p1, p2⟩ := ab_both P'.2
  have lo : loA a b l ≤ rv .f32 p := by
    generalize aA a b l * aA a b l = q at *
    generalize dP (aA a b l) = d at *
    clear F re im P P' k5 k6 e1 e2 h1 hc ht
    grind
  have hi : rv .f32 p ≤ hiA a b l := by
    generalize aA a b l * aA a b l = q at *
    generalize dP (aA a b l) = d at *
    clear F re im P P' k5 k6 e1 e2 h1 hc ht
    grind
  obtain ⟨l1, l2, l3, l4⟩ := logF_near P'.1 k3 lo hi k4 k5 k6
  refine ⟨P'.1, lo, hi, ?_, l1, l2, l3, l4⟩
  have z : (0 : Rat) < 1 / 1024 := by decide +kernel
  clear F re im P P' k5 k6 e1 e2 h1 hc ht l1 l2 l3 l4 r1 r2 p1 p2
  grind
/-- The sum that the slope is made of. -/
theorem num_bd {a b : Nat} (y : Nat → Rat) (hy : ∀ k, k < b + 4 → lnC (loA a b k) - 3 / 1000000 ≤ y k ∧ y k ≤ lnC (hiA a b k) + 3 / 1000000) : ∀ m, m ≤ b + 4 → loS a b m ≤ sumN (fun k => gG b k * y k) m ∧ sumN (fun k => gG b k * y k) m ≤ upS a b m
  | 0, _ => ⟨Rat.le_refl, Rat.le_refl⟩
  | m + 1, hm => by
    obtain ⟨i1, i2⟩ := num_bd y hy m (by omega)
    obtain ⟨h1, h2⟩ := hy m (by omega)
    have u : upS a b (m + 1) = upS a b m + (if 0 ≤ gG b m then gG b m * (lnC (hiA a b m) + 3 / 1000000) else gG b m * (lnC (loA a b m) - 3 / 1000000)) := rfl
    have l : loS a b (m + 1) = loS a b m + (if 0 ≤ gG b m then gG b m * (lnC (loA a b m) - 3 / 1000000) else gG b m * (lnC (hiA a b m) + 3 / 1000000)) := rfl
    have s : sumN (fun k => gG b k * y k) (m + 1) = sumN (fun k => gG b k * y k) m + gG b m * y m := rfl
    rw [u, l, s]
    generalize lnC (loA a b m) - 3 / 1000000 = c at *
    generalize lnC (hiA a b m) + 3 / 1000000 = d at *
    generalize gG b m = g at *
    generalize y m = v at *
    generalize sumN (fun k => gG b k * y k) m = S at *
    clear u l s hy
    by_cases hg : 0 ≤ g
    · rw [if_pos hg, if_pos hg]
      have a1 := Rat.mul_le_mul_of_nonneg_left h1 hg
      have a2 := Rat.mul_le_mul_of_nonneg_left h2 hg
      constructor <;> grind
    · rw [if_neg hg, if_neg hg]
      have a1 := Rat.mul_le_mul_of_nonneg_left h1 (show 0 ≤ -g by grind)
      have a2 := Rat.mul_le_mul_of_nonneg_left h2 (show 0 ≤ -g by grind)
      constructor <;> grind
theorem num_eq {b : Nat} (Y : List Nat) (K s : Rat) (xv g : Nat → Rat) (hg : ∀ k, k < b + 4 → g k = K * xv k - s) : ∀ m, m ≤ b + 4 → K * sumN (xy (b + 4) xv Y) m - s * sumN (y0 (b + 4) Y) m = sumN (fun k => g k * yr Y k) m
  | 0, _ => by show K * 0 - s * 0 = 0; grind
  | m + 1, hm => by
    have ih := num_eq Y K s xv g hg m (by omega)
    have e1 : xy (b + 4) xv Y m = xv m * yr Y m := by unfold xy; rw [if_pos (by omega)]
    have e2 : y0 (b + 4) Y m = yr Y m := by unfold y0; rw [if_pos (by omega)]
    have e3 := hg m (by omega)
    show K * (sumN (xy (b + 4) xv Y) m + xy (b + 4) xv Y m) - s * (sumN (y0 (b + 4) Y) m + y0 (b + 4) Y m) = sumN (fun k => g k * yr Y k) m + g m * yr Y m
    rw [e1, e2, e3, ← ih]
    grind
theorem fin_of {x : Nat} (h : isF .f32 x) : finB (cn .f32 x) = true := by
  have z : isF .f32 0 ∧ rv .f32 0 = 0 := constF (by decide +kernel)
  rw [h.cn]
  have e : rv .f32 x - rv .f32 x = 0 := by grind
  have O := op_sub h h (by rw [e, ab_zero]; exact Rat.le_of_lt (zpos _))
  have p := O.near.pos (by rw [e]; exact Rat.le_refl)
  have n := O.near.neg (by rw [e]; exact Rat.le_refl)
  unfold finB
  rw [z.1.cn, (order_val O.near.fin z.1).2.2.2 (by rw [z.2]; grind)]
  rfl
/-- The list of the logarithms. -/
theorem spY_get {a b i : Nat} {seed : Int} (ha : a < 9) (hb : b < 6) (s0 : 0 ≤ seed) (s1 : seed ≤ 2147483647) (h : i < (spY (pwN a b seed)).length) : (spY (pwN a b seed))[i] = logF (pwW a b seed i) := by
  have hi : i < b + 4 := by
    have : (spY (pwN a b seed)).length = b + 4 := by simp [spY, cl, pwN_len]
    omega
  have e : (spY (pwN a b seed))[i] = logF (cn .f32 (pwW a b seed i)) := by simp [spY, cl, pwN]
  rw [e, (pwW_ok ha hb s0 s1 hi).fin.cn]
structure ToldF (a b : Nat) (seed : Int) (t : Nat) : Prop where
  ok : slpOk (pwN a b seed) = true
  eq : spX (pwN a b seed) = t
  fin : isF .f32 t
  up : rv .f32 t - (a : Rat) / 2 ≤ 49 / 1000 * (1 + (a : Rat) / 2)
  lo : (a : Rat) / 2 - rv .f32 t ≤ 49 / 1000 * (1 + (a : Rat) / 2)
theorem told_ok {a b : Nat} {seed : Int} (ha : a < 9) (hb : b < 6) (s0 : 0 ≤ seed) (s1' : seed ≤ 2147483647) : ∃ t, ToldF a b seed t := by
  have hlen : (spY (pwN a b seed)).length = b + 4 := by simp [spY, cl, pwN_len]
  have W : ∀ l, l < b + 4 → PwF a b (pwW a b seed l) l := fun l hl => pwW_ok ha hb s0 s1' hl
  have hfin : finL (pwN a b seed) = true := by
    unfold finL
    rw [List.all_eq_true]
    intro x hx
    obtain ⟨i, hi, rfl⟩ := List.getElem_of_mem hx
    rw [pwN_get]
    exact fin_of (W i (by rw [pwN_len] at hi; exact hi)).fin
  have hpos : posL (pwN a b seed) = true := by
    unfold posL cl
    rw [List.all_eq_true]
    intro x hx
    obtain ⟨y, hy, rfl⟩ := List.mem_map.1 hx
    obtain ⟨i, hi, rfl⟩ := List.getElem_of_mem hy
    rw [pwN_get]
    have P := W i (by rw [pwN_len] at hi; exact hi)
    unfold posB
    rw [(pos_ok P.fin P.pos).1]
    rfl
  have hgood : spGood (pwN a b seed) = true := sp_good (by rw [pwN_len]; omega) (by rw [pwN_len]; omega) hfin hpos
  have SL := slope_near (Y := spY (pwN a b seed)) hb hlen (fun i h => by
    have hi : i < b + 4 := by omega
    rw [spY_get ha hb s0 s1' h]
    exact ⟨(W i hi).fl, (W i hi).l9⟩)
  have eY : ∀ k, k < b + 4 → yr (spY (pwN a b seed)) k = rv .f32 (logF (pwW a b seed k)) := fun k hk => by
    rw [yr_eq (by rw [hlen]; exact hk), spY_get ha hb s0 s1']
  have NE := num_eq (b := b) (spY (pwN a b seed)) ((b + 4 : Nat) : Rat) (s1 b) xr (gG b) (fun k hk => by
    unfold gG xL aL' xr s1
    rw [xT_ok k (by omega), aT_ok b hb]) (b + 4) (Nat.le_refl _)
  rw [NE] at SL
  obtain ⟨N1, N2⟩ := num_bd (a := a) (b := b) (yr (spY (pwN a b seed))) (fun k hk => by rw [eY k hk]; exact ⟨(W k hk).ll, (W k hk).lh⟩) (b + 4) (Nat.le_refl _)
  have EB := end_all a ha b hb
  unfold endB at EB
  rw [Bool.and_eq_true, decide_eq_true_eq, decide_eq_true_eq] at EB
  have eE' : eE b = eL b := by unfold eE eL; rw [eT_ok b hb]
  have e4 := (e_ok hb).eb
  rw [eE'] at SL e4
  have hV : spV (pwN a b seed) = fneg .f32 (slS (logN (b + 4)) (spY (pwN a b seed))) := by unfold spV; rw [pwN_len]
  obtain ⟨f1, f2⟩ := neg32 (x := slS (logN (b + 4)) (spY (pwN a b seed))) SL.1 (by unfold slS; exact fop_lt _ _ _)
  rw [← hV] at f1 f2
  have hn : numX (spV (pwN a b seed)) = spV (pwN a b seed) := by
    have := fin_of f1
    rw [f1.cn] at this
    unfold numX
    rw [this]
    rfl
  have hok : finB (spV (pwN a b seed)) = true := by
    have := fin_of f1
    rw [f1.cn] at this
    exact this
  obtain ⟨N, hN⟩ : ∃ N, N = sumN (fun k => gG b k * yr (spY (pwN a b seed)) k) (b + 4) := ⟨_, rfl⟩
  rw [← hN] at SL N1 N2
  obtain ⟨d1, d2⟩ := ab_both SL.2
  have eb1 := EB.1
  have eb2 := EB.2
  have hq : N / eL b * eL b = N := Rat.div_mul_cancel (by
    clear SL N1 N2 EB eb1 eb2 d1 d2 W hfin hpos hgood NE eY f1 f2 hV hn hok
    grind)
  refine ⟨spV (pwN a b seed), by unfold slpOk; rw [hgood, hok]; rfl, by unfold spX; rw [if_pos hgood]; exact hn, f1, ?_, ?_⟩
  · rw [f2]
    generalize rv .f32 (slS (logN (b + 4)) (spY (pwN a b seed))) = t at *
    generalize N / eL b = q at *
    generalize eL b = e at *
    generalize upS a b (b + 4) = u at *
    generalize loS a b (b + 4) = l at *
    generalize (a : Rat) / 2 = s at *
    clear SL EB W hfin hpos hgood NE eY f1 f2 hV hn hok hN eE' hlen
    have m : -s - 49 / 1000 * (1 + s) + 2 / 1000 ≤ q := by
      rcases rtri q (-s - 49 / 1000 * (1 + s) + 2 / 1000) with h | h | h
      · exfalso
        have := Rat.mul_lt_mul_of_pos_right h (show 0 < e by grind)
        grind
      · rw [h]; exact Rat.le_refl
      · exact Rat.le_of_lt h
    grind
  · rw [f2]
    generalize rv .f32 (slS (logN (b + 4)) (spY (pwN a b seed))) = t at *
    generalize N / eL b = q at *
    generalize eL b = e at *
    generalize upS a b (b + 4) = u at *
    generalize loS a b (b + 4) = l at *
    generalize (a : Rat) / 2 = s at *
    clear SL EB W hfin hpos hgood NE eY f1 f2 hV hn hok hN eE' hlen
    have m : q ≤ -s + 49 / 1000 * (1 + s) - 2 / 1000 := by
      rcases rtri (-s + 49 / 1000 * (1 + s) - 2 / 1000) q with h | h | h
      · exfalso
        have := Rat.mul_lt_mul_of_pos_right h (show 0 < e by grind)
        grind
      · rw [h]; exact Rat.le_refl
      · exact Rat.le_of_lt h
    grind
end Go.Proofs.Ytamgekijihpgkaa
