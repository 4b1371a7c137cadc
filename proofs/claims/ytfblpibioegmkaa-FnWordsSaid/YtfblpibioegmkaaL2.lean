/- Letters rewritten without writing: the reference. -/
import Derived.Test.YtfblpibioegmkaaL1
namespace Go.Proofs.Ytfblpibioegmkaa
open Go.RowKit

def unitF (i : Nat) : Nat → Int := fun j => if j = i then 1 else 0
/-- The i-th letter. -/
def oneL (i : Nat) : ByteArray := ⟨#[UInt8.ofNat (65 + i)]⟩
def mF (rs : List RuleV) (i j : Nat) : Int := if i < 26 then cnt (subT rs (oneL i)).data.toList j else unitF 26 j
def acc (rs : List RuleV) (f : Nat → Int) : Nat → Nat → Int
  | 0, _ => 0
  | i + 1, j => acc rs f i j + f i * mF rs i j
def stp (rs : List RuleV) (f : Nat → Int) : Nat → Int := acc rs f 27
def itF (rs : List RuleV) (s : ByteArray) : Nat → Nat → Int
  | 0 => cnt s.data.toList
  | k + 1 => stp rs (itF rs s k)
def okS (f : Nat → Int) : Bool := (List.range 27).all fun j => decide (f j ≤ 1000000000000)
def itO (rs : List RuleV) (s : ByteArray) (n : Nat) : Bool := (List.range n).all fun k => okS (itF rs s (k + 1))
theorem itO_succ (rs : List RuleV) (s : ByteArray) (n : Nat) : itO rs s (n + 1) = (itO rs s n && okS (itF rs s (n + 1))) := by
  unfold itO; rw [List.range_succ, List.all_append]; simp
theorem itO_bad {rs : List RuleV} {s : ByteArray} {k n : Nat} (hk : k < n) (h : okS (itF rs s (k + 1)) = false) : itO rs s n = false := by
  unfold itO
  rw [List.all_eq_false]
  exact ⟨k, List.mem_range.2 hk, by simp [h]⟩
theorem okS_yes {f : Nat → Int} (h : okS f = true) {j : Nat} (hj : j < 27) : f j ≤ 1000000000000 := by
  unfold okS at h
  rw [List.all_eq_true] at h
  exact of_decide_eq_true (h j (List.mem_range.2 hj))
theorem okS_no {f : Nat → Int} {j : Nat} (hj : j < 27) (h : ¬ f j ≤ 1000000000000) : okS f = false := by
  unfold okS
  rw [List.all_eq_false]
  exact ⟨j, List.mem_range.2 hj, by simpa using h⟩
theorem okS_all {f : Nat → Int} (h : ∀ j, j < 27 → f j ≤ 1000000000000) : okS f = true := by
  unfold okS
  rw [List.all_eq_true]
  intro j hj
  exact decide_eq_true (h j (List.mem_range.1 hj))
theorem oneL_size (i : Nat) : (oneL i).size = 1 := rfl
theorem mF_bd {rs : List RuleV} (hz : ∀ r ∈ rs, r.2.size ≤ 32) (i j : Nat) : 0 ≤ mF rs i j ∧ mF rs i j ≤ 32 := by
  unfold mF
  split
  · have h1 := cnt_le (subT rs (oneL i)).data.toList j
    have h2 := subT_size (rs := rs) hz (t := oneL i) (by rw [oneL_size]; omega)
    have h3 : (subT rs (oneL i)).data.toList.length = (subT rs (oneL i)).size := Array.length_toList
    omega
  · unfold unitF; split <;> omega
/-- Numbers that may be counted on. -/
def Fine (f : Nat → Int) : Prop := ∀ j, j < 27 → 0 ≤ f j ∧ f j ≤ 1000000000000
theorem mul_bd {a b : Int} (ha : 0 ≤ a ∧ a ≤ 1000000000000) (hb : 0 ≤ b ∧ b ≤ 32) : 0 ≤ a * b ∧ a * b ≤ 32000000000000 :=
  ⟨Int.mul_nonneg ha.1 hb.1, Int.le_trans (Int.mul_le_mul ha.2 hb.2 hb.1 (by omega)) (by omega)⟩
theorem acc_bd {rs : List RuleV} (hz : ∀ r ∈ rs, r.2.size ≤ 32) {f : Nat → Int} (hf : Fine f) (j : Nat) : ∀ i, i ≤ 27 → 0 ≤ acc rs f i j ∧ acc rs f i j ≤ i * 32000000000000
  | 0, _ => ⟨Int.le_refl _, by simp [acc]⟩
  | i + 1, h => by
    have h1 := acc_bd hz hf j i (by omega)
    have h2 := mul_bd (hf i (by omega)) (mF_bd hz i j)
    show 0 ≤ acc rs f i j + f i * mF rs i j ∧ acc rs f i j + f i * mF rs i j ≤ _
    push_cast
    omega
/-- The reference's sums: what is no letter stands ahead. -/
def sAcc (rs : List RuleV) (f : Nat → Int) (i j : Nat) : Int := (if j = 26 then f 26 else 0) + acc rs f i j
theorem sAcc_end (rs : List RuleV) (f : Nat → Int) (j : Nat) : sAcc rs f 26 j = stp rs f j := by
  unfold stp sAcc
  show _ = acc rs f 26 j + f 26 * mF rs 26 j
  have hm : mF rs 26 j = if j = 26 then 1 else 0 := by unfold mF unitF; rw [if_neg (by decide)]
  rw [hm]
  split <;> simp <;> omega
theorem sAcc_bd {rs : List RuleV} (hz : ∀ r ∈ rs, r.2.size ≤ 32) {f : Nat → Int} (hf : Fine f) (j i : Nat) (hi : i ≤ 27) : 0 ≤ sAcc rs f i j ∧ sAcc rs f i j ≤ 900000000000000 := by
  have h1 := acc_bd hz hf j i hi
  have h2 := hf 26 (by omega)
  unfold sAcc
  have : (i : Int) * 32000000000000 ≤ 27 * 32000000000000 := by omega
  split <;> omega
/-- Sums of which the first m have come on. -/
def part (a b : Nat → Int) (m : Nat) : Nat → Int := fun j => if j < m then b j else a j
theorem part_put (a b : Nat → Int) (m j : Nat) : upd (part a b m) m (b m) j = part a b (m + 1) j := by
  unfold upd part
  split
  · rename_i h; subst h; rw [if_pos (by omega)]
  · split
    · rw [if_pos (by omega)]
    · rw [if_neg (by omega)]
theorem sAcc_step (rs : List RuleV) (f : Nat → Int) (i j : Nat) : sAcc rs f i j + f i * mF rs i j = sAcc rs f (i + 1) j := by
  unfold sAcc
  show _ = _ + (acc rs f i j + f i * mF rs i j)
  omega
theorem sAcc_start (rs : List RuleV) (f : Nat → Int) (j : Nat) : upd (fun _ => 0) 26 (f 26) j = sAcc rs f 0 j := by
  show (if j = 26 then f 26 else (0 : Int)) = (if j = 26 then f 26 else 0) + (0 : Int)
  omega
theorem fine_cnt {t : ByteArray} (ht : t.size ≤ 4000) : Fine (cnt t.data.toList) := fun j _ => by
  have h1 := cnt_le t.data.toList j
  have h4 : t.data.toList.length = t.size := Array.length_toList
  omega
theorem stp_nonneg {rs : List RuleV} (hz : ∀ r ∈ rs, r.2.size ≤ 32) {f : Nat → Int} (hf : Fine f) (j : Nat) : 0 ≤ stp rs f j := (acc_bd hz hf j 27 (by omega)).1
theorem fine_it {rs : List RuleV} (hz : ∀ r ∈ rs, r.2.size ≤ 32) {s : ByteArray} (hs : s.size ≤ 4000) : ∀ k, itO rs s k = true → Fine (itF rs s k)
  | 0, _ => fine_cnt hs
  | k + 1, h => fun j hj => by
    rw [itO_succ, Bool.and_eq_true] at h
    exact ⟨stp_nonneg hz (fine_it hz hs k h.1) j, okS_yes h.2 hj⟩
theorem enc_one : ∀ i : Nat, i < 26 → Utf8.encode (65 + (i : Int)) = oneL i := by decide +kernel
theorem Vec.drew {w : World} {b : Nat} {f : Nat → Int} (h : Vec w b f) : Vec w.drew b f := ⟨h.lt, h.c, h.z⟩
/-- What LettersAfter gives: a list in new memory and a yes or no. -/
def AftR (w : World) (f : Nat → Int) (ok : Bool) (e : Ending) (w' : World) : Prop :=
  (ok = true ∧ ∃ g, e = .returned (.tuple #[.slice (some ⟨g, 0, none⟩) 27 27, .bool true]) ∧ w.heap.size ≤ g ∧ Vec w' g f ∧ Below w.heap.size w w') ∨
  (ok = false ∧ e = .returned (.tuple #[.slice none 0 0, .bool false]) ∧ Below w.heap.size w w')
set_option maxRecDepth 100000 in
set_option maxHeartbeats 8000000 in
theorem l04After_any (s : ByteArray) (A : Option Addr) (c p : Nat) (rs : List RuleV) (n : Nat) (w : World) (hA : RRd w A rs) (hn : rs.length ≤ maxLen) (hs : s.size ≤ 4000) (hz : ∀ r ∈ rs, r.2.size ≤ 32)
    (b0 : w.cell? ⟨p, 0, none⟩ = some (.string s)) (b1 : w.cell? ⟨p, 1, none⟩ = some (.slice A rs.length c)) (hp : p < w.heap.size) (hn64 : n ≤ 64) :
    Calls Try.prog 68 #[.pointer (some ⟨p, 0, none⟩), .int .i64 n] w (AftR w (itF rs s n) (itO rs s n)) := by
  obtain ⟨i0, hi, hz0, hz1, hz2⟩ := info_parts info.i64
  go_enter Try.func68, Try.ntmps68
  go_wp2_with fail
  refine (l04Letters_any s _ hs).mono ?_
  rintro e w1 ⟨g1, rfl, hg1, v1, k1⟩
  go_wp2_with fail
  go_loopw [6, 7] (fun nv kv wr => ∃ k g : Nat, k ≤ n ∧ kv = .int .i64 k ∧ nv = .slice (some ⟨g, 0, none⟩) 27 27 ∧ w.heap.size ≤ g ∧ Vec wr g (itF rs s k) ∧ Hid (itO rs s k = true) ∧ Below w.heap.size w wr) (fun _ kv _ => n - (intOf kv).toNat)
  case atStart => exact ⟨0, g1, Nat.zero_le _, rfl, rfl, hg1, v1, Lib.hid rfl, k1⟩
  case round =>
    clear v1 k1 hg1
    obtain ⟨k, g, hk, rfl, rfl, hg, hV, HO, hbel⟩ := hrel
    obtain ⟨wo, hwo⟩ : ∃ wo, wo = wr := ⟨_, rfl⟩
    subst hwo
    by_cases hlt : k < n
    · have hF := fine_it hz hs k HO.out
      have hstep : Hid (itF rs s (k + 1) = stp rs (itF rs s k)) := Lib.hid rfl
      have hitO := Lib.hid (itO_succ rs s k)
      have hbad := Lib.hid (fun h => itO_bad (rs := rs) (s := s) hlt h)
      generalize itF rs s k = f at hV hF hstep
      go_wp2_with (first | (at_make; refine wpList_make_full _ rfl _ _ 45 rfl wo.heap.size 2 i0 (.int .i64 0) 1 Try.underlying45 hi hz0 hz1 _ _ _ _ 27 rfl rfl rfl rfl (by rw [hz2]; omega) (by unfold maxLen; omega) (Nat.le_refl _) ?_))
      intro wn hown hgrow
      have hbn : Below wo.heap.size wo wn := (Below.refl _ _).grown hgrow (Nat.le_refl _) (fun k h => by cases h)
      have hvn := vec_own hown
      have hVn := hV.below hbn
      have hgl : g < wo.heap.size := hV.lt
      have KN := Below.step hbel hbn
      clear hown hgrow hbel hbn hV
      have c26 := hVn.c 26 (by omega)
      have d26 := hvn.c 26 (by omega)
      have e26 := hvn.z 26 (by omega)
      have hq := (hvn.put 26 (f 26)).congr (fun j _ => sAcc_start rs f j)
      have hzo : w.heap.size ≤ wo.heap.size := by have := hVn.lt; omega
      have hVq := hVn.keep ((Keep.refl (fun k => k = wo.heap.size) wn).setCell (p := ⟨wo.heap.size, 26, none⟩) (.inl rfl) (.int .i64 (f 26))) (by omega)
      have Kq := KN.setCell (p := ⟨wo.heap.size, 26, none⟩) hzo (.int .i64 (f 26))
      clear hvn hVn KN
      go_wp2_with fail
      go_loopw [9] (fun iv wr => ∃ i : Nat, i ≤ 26 ∧ iv = .int .i64 i ∧ Vec wr wo.heap.size (sAcc rs f i) ∧ Vec wr g f ∧ Below w.heap.size w wr) (fun iv _ => 26 - (intOf iv).toNat)
      case atStart => exact ⟨0, Nat.zero_le _, rfl, hq, hVq, Kq⟩
      case round =>
        clear hq hVq Kq c26 d26 e26
        obtain ⟨i, hi26, rfl, hS, hV, hbel⟩ := hrel
        by_cases hil : i < 26
        · have hii : (i : Int) < 26 := by omega
          have henc := enc_one i hil
          have hw1 : IntKind.i64.wrap (65 + (i : Int)) = 65 + (i : Int) := IntWalk.i64_in _ (by omega)
          have hw2 : IntKind.i32.wrap (65 + (i : Int)) = 65 + (i : Int) := by rw [IntKind.wrap_i32]; omega
          have f1 := (hbel.cell (p := ⟨p, 1, none⟩) hp).trans b1
          go_wp2_with fail
          refine (l04Text_any (oneL i) A c p rs wr (hA.below hbel) hn f1).mono ?_
          rintro e w2 ⟨rfl, n2, hn2⟩
          have hb2 : Below wr.heap.size wr w2 := by subst hn2; exact below_drewN (Below.refl _ _) _
          clear hn2 n2 henc hw1 hw2
          have hS2 := hS.below hb2
          have hV2 := hV.below hb2
          have K2 := Below.step hbel hb2
          have hgl2 : wo.heap.size < w2.heap.size := hS2.lt
          clear hS hV hbel hb2 f1
          go_wp2_with fail
          refine (l04Letters_any (subT rs (oneL i)) w2 (Nat.le_trans (subT_size (rs := rs) hz (t := oneL i) (by rw [oneL_size]; omega)) (by omega))).mono ?_
          rintro e w3 ⟨g3, rfl, hg3, v3, k3⟩
          have hmF : Hid (∀ j, cnt (subT rs (oneL i)).data.toList j = mF rs i j) := Lib.hid (fun j => by unfold mF; rw [if_pos hil])
          have v3 := v3.congr (fun j _ => hmF.out j)
          clear hmF
          have hS3 := hS2.below k3
          have hV3 := hV2.below k3
          have K3 := Below.step K2 k3
          clear hS2 hV2 K2 k3
          have hne : g3 ≠ wo.heap.size := by omega
          have hne2 : g ≠ wo.heap.size := by omega
          go_wp2_with fail
          obtain ⟨wq, hwq⟩ : ∃ wq, wq = w3 := ⟨_, rfl⟩
          subst hwq
          have hS4 := hS3.congr (g := part (sAcc rs f i) (sAcc rs f (i + 1)) 0) (fun j _ => by unfold part; rw [if_neg (by omega)])
          clear hS3
          go_loopw [11] (fun jv wr => ∃ j : Nat, j ≤ 27 ∧ jv = .int .i64 j ∧ Vec wr wo.heap.size (part (sAcc rs f i) (sAcc rs f (i + 1)) j) ∧ Vec wr g f ∧ Vec wr g3 (mF rs i) ∧ Below w.heap.size w wr) (fun iv _ => 27 - (intOf iv).toNat)
          case atStart => exact ⟨0, Nat.zero_le _, rfl, hS4, hV3, v3, K3⟩
          case round =>
            clear hS4 hV3 v3 K3
            obtain ⟨j, hj27, rfl, hS, hV, hM, hbel⟩ := hrel
            by_cases hjl : j < 27
            · have hji : (j : Int) < 27 := by omega
              have hii27 : (i : Int) < 27 := by omega
              have c1 := hS.c j hjl
              have z1 := hS.z j hjl
              have c2 := hV.c i (by omega)
              have c3 := hM.c j hjl
              have hpj : part (sAcc rs f i) (sAcc rs f (i + 1)) j j = sAcc rs f i j := by unfold part; rw [if_neg (by omega)]
              rw [hpj] at c1
              have hst := sAcc_step rs f i j
              have m1 := mul_bd (hF i (by omega)) (mF_bd hz i j)
              have m2 := sAcc_bd hz hF j (i + 1) (by omega)
              have wm : IntKind.i64.wrap (f i * mF rs i j) = f i * mF rs i j := IntWalk.i64_in _ (by omega)
              have ws : IntKind.i64.wrap (sAcc rs f i j + f i * mF rs i j) = sAcc rs f i j + f i * mF rs i j := IntWalk.i64_in _ (by omega)
              have hS' := Lib.hid ((hS.put j (sAcc rs f i j + f i * mF rs i j)).congr (g := part (sAcc rs f i) (sAcc rs f (i + 1)) (j + 1)) (fun t _ => by rw [hst]; exact part_put _ _ j t))
              have kk := (Keep.refl (fun k => k = wo.heap.size) wr).setCell (p := ⟨wo.heap.size, j, none⟩) (.inl rfl) (.int .i64 (sAcc rs f i j + f i * mF rs i j))
              have hV' := Lib.hid (hV.keep kk hne2)
              have hM' := Lib.hid (hM.keep kk hne)
              have K' := Lib.hid (hbel.setCell (p := ⟨wo.heap.size, j, none⟩) hzo (.int .i64 (sAcc rs f i j + f i * mF rs i j)))
              clear kk hst
              generalize sAcc rs f i j = aS at *
              generalize mF rs i j = aM at *
              generalize f i = aF at *
              go_wp2_with fail
              go_region_with fail
              all_goals
                go_wp2
                go_roundw
                case rel => exact ⟨j + 1, by omega, by go_num, hS'.out.drew, hV'.out.drew, hM'.out.drew, K'.out.drew⟩
                case measure => simp [intOf]; omega
            · obtain rfl : j = 27 := by omega
              have hS5 := hS.congr (g := sAcc rs f (i + 1)) (fun t ht => by unfold part; rw [if_pos ht])
              clear hS
              go_wp2_with fail
              go_roundw
              case rel => exact ⟨i + 1, by omega, by go_num, hS5, hV, hbel⟩
              case measure => simp [intOf]; omega
        · obtain rfl : i = 26 := by omega
          have hS6 := hS.congr (g := stp rs f) (fun t _ => sAcc_end rs f t)
          have hne2 : g ≠ wo.heap.size := by omega
          clear hS
          go_wp2_with fail
          obtain ⟨wq, hwq⟩ : ∃ wq, wq = wr := ⟨_, rfl⟩
          subst hwq
          go_loopw [12] (fun jv wr => ∃ j : Nat, j ≤ 27 ∧ jv = .int .i64 j ∧ Hid (∀ t, t < j → stp rs f t ≤ 1000000000000) ∧ wr = wq) (fun iv _ => 27 - (intOf iv).toNat)
          case atStart => exact ⟨0, Nat.zero_le _, rfl, Lib.hid (fun t ht => absurd ht (Nat.not_lt_zero _)), rfl⟩
          case round =>
            obtain ⟨j, hj27, rfl, HL, rfl⟩ := hrel
            by_cases hjl : j < 27
            · have hji : (j : Int) < 27 := by omega
              have c1 := hS6.c j hjl
              by_cases hle : stp rs f j ≤ 1000000000000
              · have hL2 : Hid (∀ t, t < j + 1 → stp rs f t ≤ 1000000000000) := Lib.hid (fun t ht => by
                  rcases Nat.lt_or_ge t j with h2 | h2
                  · exact HL.out t h2
                  · obtain rfl : t = j := by omega
                    exact hle)
                generalize stp rs f j = aS at c1 hle
                go_wp2_with fail
                go_roundw
                case rel => exact ⟨j + 1, by omega, by go_num, hL2, by first | trivial | rfl⟩
                case measure => simp [intOf]; omega
              · have hno : Hid (itO rs s n = false) := Lib.hid (hbad.out (by rw [hstep.out]; exact okS_no hjl hle))
                generalize stp rs f j = aS at c1 hle
                go_wp2_with fail
                go_ret2
                exact .inr ⟨hno.out, rfl, hbel⟩
            · obtain rfl : j = 27 := by omega
              have hyes : Hid (itO rs s (k + 1) = true) := Lib.hid (by rw [hitO.out, HO.out, hstep.out, okS_all HL.out]; rfl)
              have hS7 := hS6.congr (g := itF rs s (k + 1)) (fun t _ => by rw [hstep.out])
              go_wp2_with fail
              go_roundw
              case rel => exact ⟨k + 1, wo.heap.size, by omega, by go_num, rfl, hzo, hS7, hyes, hbel⟩
              case measure => simp [intOf]; omega
    · obtain rfl : k = n := by omega
      go_wp2_with fail
      go_ret2
      exact .inl ⟨HO.out, g, rfl, hg, hV, hbel⟩
end Go.Proofs.Ytfblpibioegmkaa
