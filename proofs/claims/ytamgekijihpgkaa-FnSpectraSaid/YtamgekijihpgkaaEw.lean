/- The exponential: both sides' walks, at numbers from -32 to 0. -/
import Derived.Test.YtamgekijihpgkaaEx
import Derived.Test.YtamgekijihpgkaaPhE
import Derived.Test.YtamgekijihpgkaaLogW
namespace Go.Proofs.Ytamgekijihpgkaa
open Go.RowKit Ieee

theorem neg_word (k : FloatKind) (s : Bool) {r : Nat} (h : r < k.format.signWeight) : Op.negFloat k (k.format.word s r) = k.format.word (!s) r := by
  have hx : k.format.word s r < 2 * k.format.signWeight := by
    unfold Format.word
    cases s <;> simp <;> omega
  have hm := neg_mod k (k.format.word s r)
  rw [rung_word _ s h] at hm
  have hlt : Op.negFloat k (k.format.word s r) < 2 * k.format.signWeight := by
    unfold Op.negFloat
    have e : 2 * k.format.signWeight = 2 ^ (k.format.exponentBits + k.format.fractionBits + 1) := by unfold Format.signWeight; rw [Nat.pow_succ]; omega
    rw [e] at hx ⊢
    exact Nat.xor_lt_two_pow hx (Nat.pow_lt_pow_right (by decide) (by omega))
  have hs : (Op.negFloat k (k.format.word s r) / k.format.signWeight % 2 == 1) = !s := by
    have h1 := word_neg k.format s h
    have e1 : ∀ y, (y / k.format.signWeight % 2 == 1) = Nat.testBit y (k.format.exponentBits + k.format.fractionBits) := fun y => by
      rw [Nat.testBit_eq_decide_div_mod_eq]
      unfold Format.signWeight
      by_cases hc : y / 2 ^ (k.format.exponentBits + k.format.fractionBits) % 2 = 1 <;> simp [hc]
    rw [e1] at h1 ⊢
    unfold Op.negFloat
    rw [Nat.testBit_xor, h1, Nat.testBit_two_pow]
    simp
  obtain ⟨r', h1, h2⟩ := word_of k.format hlt
  rw [hs] at h2
  rw [h2, rung_word _ _ h1] at hm
  rw [h2, hm]
theorem sg_neg {k : FloatKind} {x R : Nat} {z : Bool} (h : Sg k x R z) (hu : Up k x R) (h1 : 1 ≤ R) (h2 : R ≤ 2 * bias k) : Sg k (Op.negFloat k x) R (!z) := by
  obtain ⟨s, r, rfl, hr⟩ := hu
  have hI := inf_eq k
  have hB := binade_pos k.format
  have hW := infRung_lt' k
  have hle : R * k.format.binade ≤ (2 * bias k) * k.format.binade := Nat.mul_le_mul_right _ h2
  rw [Nat.add_mul] at hI
  have hlt : r < k.format.infRung := by omega
  rw [neg_word k s (by omega)]
  refine sg_word hr h1 h2 (fun hz => ?_)
  obtain ⟨s', m', e', a, _, _, d⟩ := h
  obtain ⟨m, e, a', _, _, hm0⟩ := read_rung k.format s hlt hW
  rw [a'] at a
  injection a with x1 x2 x3
  subst x1; subst x2
  exact hm0 (d (fun h => hz (by rw [h])))
/-- What is known of a number from -2 to some power to 0. -/
theorem sg_keys {k : FloatKind} {x R : Nat} {z : Bool} (h : Sg k x R z) : isN k x = false ∧ (z = true → fkey k x ≤ 0) ∧ (z = false → 0 ≤ fkey k x) ∧ (fkey k x).natAbs ≤ pw ((R : Int) - bias k - k.format.leastPlace).toNat := by
  obtain ⟨s, m, e, a, b, c, d⟩ := h
  have he : k.format.leastPlace ≤ e := by
    have h0 := a
    unfold Format.read at h0
    dsimp only at h0
    split at h0
    · injection h0 with _ _ h3; omega
    · split at h0
      · injection h0 with _ _ h3; omega
      · split at h0 <;> cases h0
  have hn : isN k x = false := by unfold isN; rw [a]; rfl
  have hk : fkey k x = signed s m (e - k.format.leastPlace).toNat := by
    show dkey k.format.leastPlace (k.format.read x) = _
    rw [a]
    rfl
  have hm : m <<< (e - k.format.leastPlace).toNat ≤ pw ((R : Int) - bias k - k.format.leastPlace).toNat := by
    rw [Nat.shiftLeft_eq, pw_eq]
    have h2 : 2 ^ ((R : Int) - bias k - k.format.leastPlace).toNat = 2 ^ ((R : Int) - bias k - e).toNat * 2 ^ (e - k.format.leastPlace).toNat := by rw [← Nat.pow_add]; congr 1; omega
    rw [h2]
    exact Nat.mul_le_mul_right _ c
  rw [hk]
  refine ⟨hn, fun hz => ?_, fun hz => ?_, by rw [signed_abs]; exact hm⟩
  · unfold signed
    cases s
    · have := d (by rw [hz]; decide)
      subst this
      simp
    · simp only [if_true]
      generalize m <<< (e - k.format.leastPlace).toNat = u
      omega
  · unfold signed
    cases s
    · simp only [Bool.false_eq_true, if_false]
      generalize m <<< (e - k.format.leastPlace).toNat = u
      omega
    · have := d (by rw [hz]; decide)
      subst this
      simp
/-- x as a 64-bit number. -/
def wd (x : Nat) : Nat := double.write (single.read x)
theorem sg_wide {x R : Nat} {z : Bool} (h : Sg .f32 x R z) (h1 : 1 ≤ R) (h9 : R ≤ 254) : Sg .f64 (wd x) (R + 896) z ∧ Up .f64 (wd x) (R + 896) := by
  obtain ⟨s, m, e, a, b, c, d⟩ := h
  have b32 : bias .f32 = 127 := rfl
  have b64 : bias .f64 = 1023 := rfl
  rw [b32] at b c
  have hw : wd x = double.nearest s m e := by
    unfold wd
    rw [show single.read x = .number s m e from a]
    rfl
  obtain ⟨r, hr, hb⟩ := up64 (neg := s) (m := m) (e := e) (R + 896) (by omega) (by omega) (by
    have : (((R + 896 : Nat) : Int) - 1023 - e) = (R : Int) - ((127 : Nat) : Int) - e := by omega
    rw [this]; exact c)
  by_cases hm : m = 0
  · subst hm
    rw [hw, near0]
    exact ⟨sg_word (k := .f64) (Nat.zero_le _) (by omega) (by rw [b64]; omega) (fun _ => rfl), ⟨s, 0, rfl, Nat.zero_le _⟩⟩
  · rw [hw, hr]
    exact ⟨sg_word (k := .f64) hb (by omega) (by rw [b64]; omega) (fun h => absurd (d h) hm), ⟨s, r, rfl, hb⟩⟩
theorem k256_in : In .f64 4643211215818981376 1031 1031 := by
  have : FloatKind.f64.format.binade = 4503599627370496 := rfl
  unfold In
  rw [this]
  decide
/-- What the walks of the exponential want to know. -/
structure ExF (x : Nat) : Prop where
  n32 : isN .f32 x = false
  hi : (ford .f32 (cn .f32 x) (cn .f32 1128792064) == some .gt) = false
  lo : (ford .f32 (cn .f32 x) (cn .f32 3276275712) == some .lt) = false
  n64 : isN .f64 (wd x) = false
  self : (ford .f64 (cn .f64 (wd x)) (cn .f64 (wd x)) != some .eq) = false
  hi64 : (ford .f64 (cn .f64 (wd x)) (cn .f64 4641240890982006784) == some .gt) = false
  lo64 : (ford .f64 (cn .f64 (wd x)) (cn .f64 13864612927836782592) == some .lt) = false
  t : Dsg .quo .f64 (wd x) 4643211215818981376 1020 true
  ts : Sg .f64 (exT (wd x)) 1023 true
theorem key_200 : (0 < fkey .f32 1128792064 ∧ fkey .f32 3276275712 < -((pw 154 : Nat) : Int) ∧ isN .f32 1128792064 = false ∧ isN .f32 3276275712 = false) ∧ (0 < fkey .f64 4641240890982006784 ∧ fkey .f64 13864612927836782592 < -((pw 1079 : Nat) : Int) ∧ isN .f64 4641240890982006784 = false ∧ isN .f64 13864612927836782592 = false) := by decide +kernel
theorem Sg.weak {k : FloatKind} {b R R' : Nat} {z : Bool} (h : Sg k b R z) (hR : R ≤ R') : Sg k b R' z := by
  obtain ⟨s, m, e, a, b, c, d⟩ := h
  exact ⟨s, m, e, a, by omega, Nat.le_trans c (Nat.pow_le_pow_right (by decide) (by omega)), d⟩
theorem exF {x : Nat} (h : Sg .f32 x 132 true) : ExF x := by
  obtain ⟨⟨a1, a2, a3, a4⟩, b1, b2, b3, b4⟩ := key_200
  obtain ⟨n1, k1, _, k2⟩ := sg_keys h
  obtain ⟨h64, u64⟩ := sg_wide h (by decide) (by decide)
  obtain ⟨n2, l1, _, l2⟩ := sg_keys h64
  have e1 : (((132 : Nat) : Int) - bias .f32 - FloatKind.f32.format.leastPlace).toNat = 154 := by decide
  have e2 : (((132 + 896 : Nat) : Int) - bias .f64 - FloatKind.f64.format.leastPlace).toNat = 1079 := by decide
  rw [e1] at k2
  rw [e2] at l2
  have T := sg_quo (R := 1020) h64 u64 k256_in (by decide) (by decide) (by decide) (by decide) (by decide) (by decide) (by decide)
  refine ⟨n1, ?_, ?_, n2, ?_, ?_, ?_, T, T.sg.weak (by decide)⟩
  · rw [ford_cn, ford_key n1 a3, cmp_lt (by have := k1 rfl; omega)]; rfl
  · rw [ford_cn, ford_key n1 a4, cmp_gt (by generalize pw 154 = P at *; omega)]; rfl
  · rw [ford_cn, ford_self n2]; rfl
  · rw [ford_cn, ford_key n2 b3, cmp_lt (by have := l1 rfl; omega)]; rfl
  · rw [ford_cn, ford_key n2 b4, cmp_gt (by generalize pw 1079 = P at *; omega)]; rfl
theorem ks12 : ∀ n : Nat, n ≤ 12 → (1 ≤ n → floatBits .sub .f64 (kN n) 4607182418800017408 = some (kN (n - 1))) ∧ geC (kN n) 4607182418800017408 = decide (1 ≤ n) := by decide +kernel
def exN (x : Nat) : Nat := n32 (cn .f64 (exW (wd x)))
theorem ex_fit {x : Nat} (E : ExF x) : nfit (exW (wd x)) = true := by
  have hp := (ex_step E.ts 12 (by decide)).1
  have hs := (sq_step hp 8).1
  exact hs.up.fit (by decide) (by decide)
set_option maxRecDepth 100000 in
set_option maxHeartbeats 2000000 in
theorem expNumber_any (x : Nat) (E : ExF x) (w0 : World) : Calls Try.prog 18 #[.float .f32 x] w0 (FloatR w0 (exN x)) := by
  have hhi := E.hi
  have hlo := E.lo
  have n32' := E.n32
  have NW := fun w => run_narrow (P := Try.prog) w 35 25 _ (by kernel_rfl) Try.underlying25 (ex_fit E)
  have HS := Lib.hid (ex_step E.ts)
  have HQ := Lib.hid (sq_step ((ex_step E.ts 12 (by decide)).1))
  have wx : ∀ w, wres x w = wd x := fun w => by unfold wres; rw [n32']; rfl
  have dx : wdr x = 0 := by unfold wdr; rw [n32']; rfl
  have HN : Hid (exN x = n32 (cn .f64 (exW (wd x)))) := Lib.hid rfl
  have HT : Hid (exW (wd x) = exS (exP (exT (wd x)) 12) 8) := Lib.hid rfl
  have rt : ∀ w, fres .quo .f64 (wd x) 4643211215818981376 w = exT (wd x) := E.t.res
  have dt := E.t.dr
  clear E n32'
  generalize exW (wd x) = ew at *
  generalize exT (wd x) = t at *
  generalize wd x = y at *
  go_enter Try.func18, Try.ntmps18
  go_wp2
  clear hhi hlo rt dt wx dx
  go_loopg [4, 5] 12 (fun k pv kv wr => ∃ j : Nat, k = 12 - j ∧ j ≤ 12 ∧ pv = .float .f64 (exP t j) ∧ kv = .float .f64 (kN (12 - j)) ∧ wr = w0)
  case atStart => exact ⟨0, rfl, by omega, rfl, rfl, rfl⟩
  case round =>
    obtain ⟨j, rfl, hj, rfl, rfl, rfl⟩ := hrel
    by_cases hlt : j < 12
    · obtain ⟨_, hd⟩ := HS.out j hj
      obtain ⟨D1, q1, q2, a1, a2⟩ := hd hlt
      have r1 := D1.res
      have d1 := D1.dr
      obtain ⟨t3, t4⟩ := ks12 (12 - j) (by omega)
      obtain ⟨e4, f4⟩ := fb_some (t3 (by omega))
      have hsd : floatOfInt .f64 (12 - (j : Int)) = kN (12 - j) := by unfold kN; rw [show (12 - (j : Int)) = ((12 - j : Nat) : Int) by omega]
      rw [hsd] at q1 q2 a1 a2
      have t5 : geC (kN (12 - j)) 4607182418800017408 = true := by rw [t4]; simp; omega
      unfold geC at t5
      clear t3 t4
      unfold kO at a1 a2
      clear D1 hd HS HQ
      go_wp2
      go_roundg (12 - (j + 1))
      case measure => omega
      case rel => exact ⟨j + 1, rfl, by omega, rfl, by rw [Nat.sub_sub], rfl⟩
    · obtain rfl : j = 12 := by omega
      clear HS
      have t5 : geC (kN (12 - 12)) 4607182418800017408 = false := by rw [(ks12 0 (by decide)).2]; simp
      unfold geC at t5
      go_wp2
      clear t5
      obtain ⟨w0, hw0⟩ : ∃ w0, w0 = wr := ⟨_, rfl⟩
      subst hw0
      go_loopg [4, 27] 8 (fun k pv iv wr => ∃ j : Nat, k = 8 - j ∧ j ≤ 8 ∧ pv = .float .f64 (exS (exP t 12) j) ∧ iv = .int .i64 j ∧ wr = w0)
      case atStart => exact ⟨0, rfl, by omega, rfl, rfl, rfl⟩
      case round =>
        obtain ⟨j, rfl, hj, rfl, rfl, rfl⟩ := hrel
        by_cases hlt2 : j < 8
        · obtain ⟨_, D⟩ := HQ.out j
          have r1 := D.res
          have d1 := D.dr
          clear D HQ
          go_wp2
          go_roundg (8 - (j + 1))
          case measure => omega
          case rel => exact ⟨j + 1, rfl, by omega, rfl, by go_num, rfl⟩
        · obtain rfl : j = 8 := by omega
          rw [← HT.out]
          go_wp2
          go_ret
          exact ⟨_, _, rfl, by rw [cn_nres, HN.out], rfl⟩
set_option maxRecDepth 100000 in
set_option maxHeartbeats 2000000 in
theorem expWide_any (x : Nat) (E : ExF x) (w0 : World) : Calls Try.prog 48 #[.float .f64 (wd x)] w0 fun e w' => e = .returned (.float .f64 (exW (wd x))) ∧ w' = w0 := by
  have hhi := E.hi64
  have hlo := E.lo64
  have hself := E.self
  have n32' := E.n32
  have NW := fun w => run_narrow (P := Try.prog) w 35 25 _ (by kernel_rfl) Try.underlying25 (ex_fit E)
  have HS := Lib.hid (ex_step E.ts)
  have HQ := Lib.hid (sq_step ((ex_step E.ts 12 (by decide)).1))
  have wx : ∀ w, wres x w = wd x := fun w => by unfold wres; rw [n32']; rfl
  have dx : wdr x = 0 := by unfold wdr; rw [n32']; rfl
  have HN : Hid (exN x = n32 (cn .f64 (exW (wd x)))) := Lib.hid rfl
  have HT : Hid (exW (wd x) = exS (exP (exT (wd x)) 12) 8) := Lib.hid rfl
  have rt : ∀ w, fres .quo .f64 (wd x) 4643211215818981376 w = exT (wd x) := E.t.res
  have dt := E.t.dr
  clear E n32' NW wx dx HN
  generalize exW (wd x) = ew at *
  generalize exT (wd x) = t at *
  generalize wd x = y at *
  go_enter Try.func48, Try.ntmps48
  go_wp2
  clear hhi hlo rt dt hself
  go_loopg [4, 5] 12 (fun k pv kv wr => ∃ j : Nat, k = 12 - j ∧ j ≤ 12 ∧ pv = .float .f64 (exP t j) ∧ kv = .int .i64 (12 - (j : Int)) ∧ wr = w0)
  case atStart => exact ⟨0, rfl, by omega, rfl, rfl, rfl⟩
  case round =>
    obtain ⟨j, rfl, hj, rfl, rfl, rfl⟩ := hrel
    by_cases hlt : j < 12
    · obtain ⟨_, hd⟩ := HS.out j hj
      obtain ⟨D1, q1, q2, a1, a2⟩ := hd hlt
      have r1 := D1.res
      have d1 := D1.dr
      unfold kO at a1 a2
      clear D1 hd HS HQ
      go_wp2
      go_roundg (12 - (j + 1))
      case measure => omega
      case rel => exact ⟨j + 1, rfl, by omega, rfl, by go_num, rfl⟩
    · obtain rfl : j = 12 := by omega
      clear HS
      go_wp2
      obtain ⟨w0, hw0⟩ : ∃ w0, w0 = wr := ⟨_, rfl⟩
      subst hw0
      go_loopg [4, 6] 8 (fun k pv iv wr => ∃ j : Nat, k = 8 - j ∧ j ≤ 8 ∧ pv = .float .f64 (exS (exP t 12) j) ∧ iv = .int .i64 j ∧ wr = w0)
      case atStart => exact ⟨0, rfl, by omega, rfl, rfl, rfl⟩
      case round =>
        obtain ⟨j, rfl, hj, rfl, rfl, rfl⟩ := hrel
        by_cases hlt2 : j < 8
        · obtain ⟨_, D⟩ := HQ.out j
          have r1 := D.res
          have d1 := D.dr
          clear D HQ
          go_wp2
          go_roundg (8 - (j + 1))
          case measure => omega
          case rel => exact ⟨j + 1, rfl, by omega, rfl, by go_num, rfl⟩
        · obtain rfl : j = 8 := by omega
          rw [← HT.out]
          go_wp2
          go_ret
          exact ⟨rfl, rfl⟩
theorem l01Exp_any (x : Nat) (E : ExF x) (w : World) : Calls Try.prog 26 #[.float .f32 x] w (FloatR w (exN x)) := by
  have n32' := E.n32
  have hfit := ex_fit E
  have wx : ∀ w, wres x w = wd x := fun w => by unfold wres; rw [n32']; rfl
  have dx : wdr x = 0 := by unfold wdr; rw [n32']; rfl
  have HN : Hid (exN x = n32 (cn .f64 (exW (wd x)))) := Lib.hid rfl
  go_enter Try.func26, Try.ntmps26
  go_wp2_with fail
  refine (expWide_any x E _).mono ?_
  rintro e w1 ⟨rfl, rfl⟩
  go_wp2_with fail
  refine (narrow_any _ hfit _).mono ?_
  rintro e w1 ⟨rfl, rfl⟩
  go_wp2
  go_ret
  exact ⟨_, _, rfl, by rw [cn_nres, HN.out], rfl⟩
end Go.Proofs.Ytamgekijihpgkaa
