/- FnWords: the three grammars that are given, and those that are drawn. Plain. -/
import Derived.Test.YtfblpibioegmkaaW1
namespace Go.Proofs.Ytfblpibioegmkaa
open Go.RowKit

structure DG (s : ByteArray) (rs : List RuleV) : Prop where
  gram : gramB s rs = true
  noQ : ∀ r ∈ rs, hdI r.1 ≠ 81
  len : rs.length ≤ 4
  small : SmallR 11 rs
  words : ∀ k, k ≤ 4 → (itM rs s.data.toList k).length ≤ 4000
theorem oneB_inj {a b : UInt8} (h : oneB a = oneB b) : a = b := by
  unfold oneB at h
  injection h with h
  simpa using h
theorem txt_one (T : ByteArray) (c : UInt8) : txt [(oneB 70, T)] c = if c = 70 then T.data.toList else [c] := by
  unfold txt
  rcases subT_cases [(oneB 70, T)] (oneB c) with ⟨r, hr, e1, e2⟩ | ⟨hn, e⟩
  · have : r = (oneB 70, T) := by simpa using hr
    subst this
    rw [e2, if_pos (oneB_inj e1).symm]
  · rw [e, if_neg (fun h => hn (oneB 70, T) (by simp) (by rw [h]))]
    rfl
theorem idx_F {c : UInt8} (h : ¬ c = 70) : cnt [c] 5 = 0 := by
  unfold cnt
  rw [List.countP_singleton]
  have : (idxL c == 5) = false := by
    have h2 : ¬ c.toNat = 70 := fun e => h (by rw [← UInt8.toNat_inj]; exact e)
    unfold idxL
    split <;> simp <;> omega
  rw [this]; rfl
theorem one_F (T : ByteArray) : ∀ l : List UInt8, cnt (onceM [(oneB 70, T)] l) 5 = cnt T.data.toList 5 * cnt l 5
  | [] => by
    show cnt [] 5 = _ * cnt [] 5
    have : cnt [] 5 = 0 := rfl
    rw [this]; simp
  | c :: l => by
    have ih := one_F T l
    have e : onceM [(oneB 70, T)] (c :: l) = txt [(oneB 70, T)] c ++ onceM [(oneB 70, T)] l := rfl
    have e2 : c :: l = [c] ++ l := rfl
    rw [e, cnt_append, ih, txt_one, e2, cnt_append, Int.mul_add]
    by_cases h : c = 70
    · subst h
      rw [if_pos rfl]
      have : cnt [(70 : UInt8)] 5 = 1 := by decide
      rw [this]; omega
    · rw [if_neg h, idx_F h]; simp
theorem one_len (T : ByteArray) (hT : 1 ≤ T.data.toList.length) : ∀ l : List UInt8, ((onceM [(oneB 70, T)] l).length : Int) = l.length + (T.data.toList.length - 1 : Int) * cnt l 5
  | [] => by
    have : cnt [] 5 = 0 := rfl
    rw [this]
    simp [onceM]
  | c :: l => by
    have ih := one_len T hT l
    have e : onceM [(oneB 70, T)] (c :: l) = txt [(oneB 70, T)] c ++ onceM [(oneB 70, T)] l := rfl
    have e2 : cnt (c :: l) 5 = cnt [c] 5 + cnt l 5 := cnt_append [c] l 5
    rw [e, List.length_append, txt_one, e2, Int.mul_add, List.length_cons]
    push_cast
    rw [ih]
    by_cases h : c = 70
    · subst h
      rw [if_pos rfl]
      have : cnt [(70 : UInt8)] 5 = 1 := by decide
      rw [this]; omega
    · rw [if_neg h, idx_F h]; simp; omega
theorem one_pow (T : ByteArray) (l : List UInt8) : ∀ n, cnt (itM [(oneB 70, T)] l n) 5 = cnt T.data.toList 5 ^ n * cnt l 5
  | 0 => by simp [itM]
  | n + 1 => by
    show cnt (onceM _ _) 5 = _
    rw [one_F, one_pow T l n, Int.pow_succ, Int.mul_comm (cnt T.data.toList 5 ^ n) (cnt T.data.toList 5), Int.mul_assoc]
theorem koch_eq : kochR = [(oneB 70, ⟨#[70, 43, 70, 45, 45, 70, 43, 70]⟩)] := rfl
theorem bush_eq : bushR = [(oneB 70, ⟨#[70, 91, 43, 70, 93, 70, 91, 45, 70, 93, 70]⟩)] := rfl
theorem bushS_eq : bushS = oneB 70 := rfl
theorem koch_gram : gramB bushS kochR = true := by decide +kernel
theorem bush_gram : gramB bushS bushR = true := by decide +kernel
theorem dragon_gram : gramB dragonS dragonR = true := by decide +kernel
theorem koch_F (n : Nat) : cnt (itM kochR bushS.data.toList n) 5 = 4 ^ n := by
  rw [koch_eq, one_pow]
  have h1 : cnt (⟨#[70, 43, 70, 45, 45, 70, 43, 70]⟩ : ByteArray).data.toList 5 = 4 := by decide
  have h2 : cnt bushS.data.toList 5 = 1 := by decide
  rw [h1, h2]; simp
theorem bush_F (n : Nat) : cnt (itM bushR bushS.data.toList n) 5 = 5 ^ n := by
  rw [bush_eq, one_pow]
  have h1 : cnt (⟨#[70, 91, 43, 70, 93, 70, 91, 45, 70, 93, 70]⟩ : ByteArray).data.toList 5 = 5 := by decide
  have h2 : cnt bushS.data.toList 5 = 1 := by decide
  rw [h1, h2]; simp
theorem koch_step (n : Nat) : ((itM kochR bushS.data.toList (n + 1)).length : Int) = (itM kochR bushS.data.toList n).length + 7 * 4 ^ n := by
  have h := one_len ⟨#[70, 43, 70, 45, 45, 70, 43, 70]⟩ (by decide) (itM kochR bushS.data.toList n)
  rw [koch_F, ← koch_eq] at h
  exact h
theorem bush_step (n : Nat) : ((itM bushR bushS.data.toList (n + 1)).length : Int) = (itM bushR bushS.data.toList n).length + 10 * 5 ^ n := by
  have h := one_len ⟨#[70, 91, 43, 70, 93, 70, 91, 45, 70, 93, 70]⟩ (by decide) (itM bushR bushS.data.toList n)
  rw [bush_F, ← bush_eq] at h
  exact h
theorem up_to {f : Nat → Nat} (h : ∀ n, f n ≤ f (n + 1)) {k n : Nat} (hk : k ≤ n) : f k ≤ f n := by
  induction n with
  | zero => rw [show k = 0 by omega]; exact Nat.le_refl _
  | succ n ih =>
    rcases Nat.lt_or_eq_of_le hk with h1 | h1
    · exact Nat.le_trans (ih (by omega)) (h n)
    · rw [h1]; exact Nat.le_refl _
theorem koch_words : ∀ k, k ≤ 4 → (itM kochR bushS.data.toList k).length ≤ 4000 := fun k hk => by
  have h0 : (itM kochR bushS.data.toList 0).length = 1 := rfl
  have h1 : ((itM kochR bushS.data.toList 1).length : Int) = (itM kochR bushS.data.toList 0).length + 7 := by have h := koch_step 0; simpa using h
  have h2 : ((itM kochR bushS.data.toList 2).length : Int) = (itM kochR bushS.data.toList 1).length + 28 := by have h := koch_step 1; simpa using h
  have h3 : ((itM kochR bushS.data.toList 3).length : Int) = (itM kochR bushS.data.toList 2).length + 112 := by have h := koch_step 2; simpa using h
  have h4 : ((itM kochR bushS.data.toList 4).length : Int) = (itM kochR bushS.data.toList 3).length + 448 := by have h := koch_step 3; simpa using h
  have : k = 0 ∨ k = 1 ∨ k = 2 ∨ k = 3 ∨ k = 4 := by omega
  rcases this with rfl | rfl | rfl | rfl | rfl <;> omega
theorem bush_words : ∀ k, k ≤ 4 → (itM bushR bushS.data.toList k).length ≤ 4000 := fun k hk => by
  have h0 : (itM bushR bushS.data.toList 0).length = 1 := rfl
  have h1 : ((itM bushR bushS.data.toList 1).length : Int) = (itM bushR bushS.data.toList 0).length + 10 := by have h := bush_step 0; simpa using h
  have h2 : ((itM bushR bushS.data.toList 2).length : Int) = (itM bushR bushS.data.toList 1).length + 50 := by have h := bush_step 1; simpa using h
  have h3 : ((itM bushR bushS.data.toList 3).length : Int) = (itM bushR bushS.data.toList 2).length + 250 := by have h := bush_step 2; simpa using h
  have h4 : ((itM bushR bushS.data.toList 4).length : Int) = (itM bushR bushS.data.toList 3).length + 1250 := by have h := bush_step 3; simpa using h
  have : k = 0 ∨ k = 1 ∨ k = 2 ∨ k = 3 ∨ k = 4 := by omega
  rcases this with rfl | rfl | rfl | rfl | rfl <;> omega
/-! The dragon. -/
theorem txt_dragon (c : UInt8) : txt dragonR c = if c = 88 then [88, 43, 89, 70, 43] else if c = 89 then [45, 70, 88, 45, 89] else [c] := by
  unfold txt
  rcases subT_cases dragonR (oneB c) with ⟨r, hr, e1, e2⟩ | ⟨hn, e⟩
  · have : r = (oneB 88, ⟨#[88, 43, 89, 70, 43]⟩) ∨ r = (oneB 89, ⟨#[45, 70, 88, 45, 89]⟩) := by simpa [dragonR, oneB] using hr
    rcases this with rfl | rfl
    · rw [e2, if_pos (oneB_inj e1).symm]
    · have : c = 89 := (oneB_inj e1).symm
      subst this
      rw [e2, if_neg (by decide), if_pos rfl]
  · have h1 : ¬ c = 88 := fun h => hn (oneB 88, ⟨#[88, 43, 89, 70, 43]⟩) (by simp [dragonR, oneB]) (by rw [h])
    have h2 : ¬ c = 89 := fun h => hn (oneB 89, ⟨#[45, 70, 88, 45, 89]⟩) (by simp [dragonR, oneB]) (by rw [h])
    rw [e, if_neg h1, if_neg h2]
    rfl
theorem idx_no {c d : UInt8} (hd : 65 ≤ d.toNat ∧ d.toNat ≤ 90) (h : ¬ c = d) : cnt [c] (d.toNat - 65) = 0 := by
  unfold cnt
  rw [List.countP_singleton]
  have : (idxL c == d.toNat - 65) = false := by
    have h2 : ¬ c.toNat = d.toNat := fun e => h (by rw [← UInt8.toNat_inj]; exact e)
    unfold idxL
    split <;> simp <;> omega
  rw [this]; rfl
theorem dragon_one : ∀ l : List UInt8, cnt (onceM dragonR l) 5 = cnt l 5 + (cnt l 23 + cnt l 24) ∧ cnt (onceM dragonR l) 23 + cnt (onceM dragonR l) 24 = 2 * (cnt l 23 + cnt l 24)
  | [] => ⟨rfl, rfl⟩
  | c :: l => by
    obtain ⟨h1, h2⟩ := dragon_one l
    have e : onceM dragonR (c :: l) = txt dragonR c ++ onceM dragonR l := rfl
    have e2 : c :: l = [c] ++ l := rfl
    rw [e, e2]
    simp only [cnt_append]
    rw [h1]
    have key : cnt (txt dragonR c) 5 = cnt [c] 5 + (cnt [c] 23 + cnt [c] 24) ∧ cnt (txt dragonR c) 23 + cnt (txt dragonR c) 24 = 2 * (cnt [c] 23 + cnt [c] 24) := by
      rw [txt_dragon]
      by_cases a : c = 88
      · subst a; decide
      · by_cases b : c = 89
        · subst b; decide
        · rw [if_neg a, if_neg b]
          have z1 := idx_no (c := c) (d := 88) (by decide) a
          have z2 := idx_no (c := c) (d := 89) (by decide) b
          have w1 : (88 : UInt8).toNat - 65 = 23 := by decide
          have w2 : (89 : UInt8).toNat - 65 = 24 := by decide
          rw [w1] at z1
          rw [w2] at z2
          rw [z1, z2]
          omega
    omega
theorem dragon_F : ∀ n, cnt (itM dragonR dragonS.data.toList n) 5 = 2 ^ n ∧ cnt (itM dragonR dragonS.data.toList n) 23 + cnt (itM dragonR dragonS.data.toList n) 24 = 2 ^ n
  | 0 => by decide
  | n + 1 => by
    obtain ⟨h1, h2⟩ := dragon_F n
    obtain ⟨e1, e2⟩ := dragon_one (itM dragonR dragonS.data.toList n)
    have p := Int.pow_succ 2 n
    show cnt (onceM dragonR _) 5 = _ ∧ cnt (onceM dragonR _) 23 + cnt (onceM dragonR _) 24 = _
    omega
theorem koch_small : SmallR 8 kochR := small_of (by decide) (by decide)
theorem bush_small : SmallR 11 bushR := small_of (by decide) (by decide)
theorem dragon_small : SmallR 5 dragonR := small_of (by decide) (by decide)
theorem SmallR.mono {m n : Nat} {rs : List RuleV} (h : SmallR m rs) (hmn : m ≤ n) : SmallR n rs := fun c => Nat.le_trans (h c) hmn
theorem pow_le {m n k b : Nat} (h : n ≤ k) (hm : 1 ≤ m) (hb : m ^ k ≤ b) : m ^ n ≤ b := Nat.le_trans (Nat.pow_le_pow_right hm h) hb
theorem itM_bound {m : Nat} {rs : List RuleV} (h : SmallR m rs) (hm : 1 ≤ m) {l : List UInt8} {n b : Nat} (hb : l.length * m ^ n ≤ b) : ∀ k, k ≤ n → (itM rs l k).length ≤ b := fun k hk =>
  Nat.le_trans (itM_len h l k) (Nat.le_trans (Nat.mul_le_mul_left _ (Nat.pow_le_pow_right hm hk)) hb)
theorem koch_DG : DG bushS kochR := ⟨koch_gram, by decide, by decide, koch_small.mono (by decide), koch_words⟩
theorem bush_DG : DG bushS bushR := ⟨bush_gram, by decide, by decide, bush_small, bush_words⟩
theorem dragon_DG : DG dragonS dragonR := ⟨dragon_gram, by decide, by decide, dragon_small.mono (by decide), itM_bound dragon_small (by decide) (by decide)⟩
theorem koch_long : laB bushS kochR 10 = true ∧ loV bushS kochR 10 = 1048576 := by
  have hR := gram_rule koch_gram
  have h1 : laB bushS kochR ((10 : Nat) : Int) = true := by
    rw [la_yes koch_gram (by decide)]
    exact itO_of hR (itM_bound koch_small (by decide) (by decide))
  refine ⟨h1, ?_⟩
  unfold loV
  rw [show laB bushS kochR 10 = true from h1, if_pos rfl, itF_eq hR]
  exact koch_F 10
theorem dragon_long : laB dragonS dragonR 10 = true ∧ loV dragonS dragonR 10 = 1024 := by
  have hR := gram_rule dragon_gram
  have h1 : laB dragonS dragonR ((10 : Nat) : Int) = true := by
    rw [la_yes dragon_gram (by decide)]
    exact itO_of hR (itM_bound dragon_small (by decide) (by decide))
  refine ⟨h1, ?_⟩
  unfold loV
  rw [show laB dragonS dragonR 10 = true from h1, if_pos rfl, itF_eq hR]
  exact (dragon_F 10).1
theorem bush_long : laB bushS bushR 5 = true ∧ loV bushS bushR 5 = 3125 := by
  have hR := gram_rule bush_gram
  have h1 : laB bushS bushR ((5 : Nat) : Int) = true := by
    rw [la_yes bush_gram (by decide)]
    exact itO_of hR (itM_bound bush_small (by decide) (by decide))
  refine ⟨h1, ?_⟩
  unfold loV
  rw [show laB bushS bushR 5 = true from h1, if_pos rfl, itF_eq hR]
  exact bush_F 5
end Go.Proofs.Ytfblpibioegmkaa
