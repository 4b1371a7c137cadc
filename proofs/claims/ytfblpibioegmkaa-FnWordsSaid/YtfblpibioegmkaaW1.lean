/- FnWords: words as lists; letters counted; how words grow. Plain. -/
import Derived.Test.YtfblpibioegmkaaL5
namespace Go.Proofs.Ytfblpibioegmkaa
open Go.RowKit

def oneB (c : UInt8) : ByteArray := ⟨#[c]⟩
/-- What a byte becomes. -/
def txt (rs : List RuleV) (c : UInt8) : List UInt8 := (subT rs (oneB c)).data.toList
def onceM (rs : List RuleV) (l : List UInt8) : List UInt8 := l.flatMap (txt rs)
theorem lett_eq {t : ByteArray} {k : Nat} (h : k < t.size) : lett t k = oneB t[k] := by
  have h1 : (lett t k).data.toList = [t[k]] := by
    unfold lett
    rw [ByteArray.data_extract, Array.toList_extract, List.extract_eq_take_drop]
    have hk : k < t.data.toList.length := by simpa using h
    rw [List.drop_eq_getElem_cons hk]
    have : k + 1 - k = 1 := by omega
    rw [this]
    simp
    rfl
  unfold oneB
  cases hl : lett t k with
  | mk a =>
    rw [hl] at h1
    have : a = #[t[k]] := by
      apply Array.ext'
      simpa using h1
    rw [this]
theorem onceL_eq (rs : List RuleV) (t : ByteArray) : ∀ k, k ≤ t.size → onceL rs t k = onceM rs (t.data.toList.take k)
  | 0, _ => by simp [onceL, onceM]
  | k + 1, h => by
    have hk : k < t.size := by omega
    show onceL rs t k ++ (subT rs (lett t k)).data.toList = _
    rw [onceL_eq rs t k (by omega), take_snoc t k hk, lett_eq hk]
    unfold onceM
    rw [List.flatMap_append]
    simp [txt]
theorem once_all (rs : List RuleV) (t : ByteArray) : onceL rs t t.size = onceM rs t.data.toList := by
  rw [onceL_eq rs t t.size (Nat.le_refl _), List.take_of_length_le (by simp)]
theorem onceB_eq (rs : List RuleV) (t : ByteArray) : onceB rs t = decide ((onceM rs t.data.toList).length ≤ 4000) := by unfold onceB; rw [once_all]
theorem onceV_eq {rs : List RuleV} {t : ByteArray} (h : (onceM rs t.data.toList).length ≤ 4000) : onceV rs t = ⟨(onceM rs t.data.toList).toArray⟩ := by
  unfold onceV
  rw [onceB_eq, decide_eq_true h, if_pos rfl, once_all]
def itM (rs : List RuleV) (l : List UInt8) : Nat → List UInt8
  | 0 => l
  | n + 1 => onceM rs (itM rs l n)
theorem it_eq {rs : List RuleV} {s : ByteArray} : ∀ n, (∀ k, k ≤ n → (itM rs s.data.toList k).length ≤ 4000) → itB rs s n = true ∧ (itT rs s n).data.toList = itM rs s.data.toList n
  | 0, _ => ⟨rfl, rfl⟩
  | n + 1, h => by
    obtain ⟨h1, h2⟩ := it_eq n (fun k hk => h k (by omega))
    have hl : (onceM rs (itT rs s n).data.toList).length ≤ 4000 := by rw [h2]; exact h (n + 1) (Nat.le_refl _)
    constructor
    · rw [itB_succ, h1, onceB_eq, decide_eq_true hl]; rfl
    · show (onceV rs (itT rs s n)).data.toList = _
      rw [onceV_eq hl, h2]
      rfl

/-! Letters that stay words. -/
theorem gram_rule {s : ByteArray} {rs : List RuleV} (h : gramB s rs = true) : ∀ r ∈ rs, ruleB r = true := by
  unfold gramB rulesB at h
  simp only [Bool.and_eq_true, decide_eq_true_eq, List.all_eq_true, List.mem_range] at h
  intro r hr
  obtain ⟨k, hk, e⟩ := List.getElem_of_mem hr
  have := h.1 k hk
  unfold okAt at this
  rw [okAt_at hk] at this
  simp only [Bool.and_eq_true] at this
  rw [← e]
  exact this.1
theorem subT_cases (rs : List RuleV) (t : ByteArray) : (∃ r ∈ rs, r.1 = t ∧ subT rs t = r.2) ∨ ((∀ r ∈ rs, ¬ r.1 = t) ∧ subT rs t = t) := by
  unfold subT
  split
  · rename_i h
    refine .inl ⟨_, List.getElem_mem h, ?_, rfl⟩
    exact of_decide_eq_true (List.findIdx_getElem (p := fun r : RuleV => decide (r.1 = t)) (xs := rs) (w := h))
  · rename_i h
    refine .inr ⟨fun r hr e => h ?_, rfl⟩
    unfold findR
    exact List.findIdx_lt_length_of_exists ⟨r, hr, by simpa using e⟩
theorem rule_ok {r : RuleV} (h : ruleB r = true) : ltrB r.1 = true ∧ r.2.data.toList.all okc = true ∧ r.2.data.toList.length ≤ 32 := by
  unfold ruleB wordB at h
  simp only [Bool.and_eq_true, decide_eq_true_eq] at h
  exact ⟨h.1, h.2.2, by omega⟩
theorem txt_good {rs : List RuleV} (hR : ∀ r ∈ rs, ruleB r = true) {c : UInt8} (hc : okc c = true) : (txt rs c).all okc = true := by
  unfold txt
  rcases subT_cases rs (oneB c) with ⟨r, hr, _, e⟩ | ⟨_, e⟩
  · rw [e]; exact (rule_ok (hR r hr)).2.1
  · rw [e]; simp [oneB, hc]
theorem onceM_good {rs : List RuleV} (hR : ∀ r ∈ rs, ruleB r = true) : ∀ {l : List UInt8}, l.all okc = true → (onceM rs l).all okc = true
  | [], _ => rfl
  | c :: l, h => by
    rw [List.all_cons, Bool.and_eq_true] at h
    unfold onceM
    rw [List.flatMap_cons, List.all_append, txt_good hR h.1]
    exact onceM_good hR h.2
theorem itM_good {rs : List RuleV} (hR : ∀ r ∈ rs, ruleB r = true) {l : List UInt8} (h : l.all okc = true) : ∀ n, (itM rs l n).all okc = true
  | 0 => h
  | n + 1 => onceM_good hR (itM_good hR h n)

/-! Growth. -/
def SmallR (m : Nat) (rs : List RuleV) : Prop := ∀ c, (txt rs c).length ≤ m
theorem onceM_len {m : Nat} {rs : List RuleV} (h : SmallR m rs) : ∀ l : List UInt8, (onceM rs l).length ≤ l.length * m
  | [] => by simp [onceM]
  | c :: l => by
    have h1 := onceM_len h l
    have h2 := h c
    unfold onceM at h1 ⊢
    rw [List.flatMap_cons, List.length_append, List.length_cons, Nat.add_mul]
    omega
theorem itM_len {m : Nat} {rs : List RuleV} (h : SmallR m rs) (l : List UInt8) : ∀ n, (itM rs l n).length ≤ l.length * m ^ n
  | 0 => by simp [itM]
  | n + 1 => by
    have h1 := itM_len h l n
    have h2 := onceM_len h (itM rs l n)
    show (onceM rs (itM rs l n)).length ≤ _
    calc _ ≤ (itM rs l n).length * m := h2
      _ ≤ (l.length * m ^ n) * m := Nat.mul_le_mul_right _ h1
      _ = l.length * m ^ (n + 1) := by rw [Nat.pow_succ, Nat.mul_assoc]
theorem small_of {m : Nat} {rs : List RuleV} (h1 : 1 ≤ m) (h : ∀ r ∈ rs, r.2.size ≤ m) : SmallR m rs := fun c => by
  unfold txt
  rcases subT_cases rs (oneB c) with ⟨r, hr, _, e⟩ | ⟨_, e⟩
  · rw [e]
    have := h r hr
    have h4 : r.2.data.toList.length = r.2.size := Array.length_toList
    omega
  · rw [e]
    show 1 ≤ m
    exact h1

/-! Letters counted. -/
theorem cnt_append (a b : List UInt8) (j : Nat) : cnt (a ++ b) j = cnt a j + cnt b j := by
  unfold cnt; rw [List.countP_append]; omega
theorem acc_upd (rs : List RuleV) (f : Nat → Int) (i : Nat) (j : Nat) : ∀ n, acc rs (upd f i (f i + 1)) n j = acc rs f n j + (if i < n then mF rs i j else 0)
  | 0 => by simp [acc]
  | n + 1 => by
    show acc rs (upd f i (f i + 1)) n j + upd f i (f i + 1) n * mF rs n j = acc rs f n j + f n * mF rs n j + _
    rw [acc_upd rs f i j n]
    unfold upd
    by_cases e : n = i
    · subst e
      rw [if_pos rfl, if_neg (by omega), if_pos (by omega), Int.add_mul]
      omega
    · rw [if_neg e]
      by_cases h : i < n
      · rw [if_pos h, if_pos (by omega)]; omega
      · rw [if_neg h, if_neg (by omega)]; omega
theorem txt_cnt {rs : List RuleV} (hR : ∀ r ∈ rs, ruleB r = true) (c : UInt8) (j : Nat) : cnt (txt rs c) j = mF rs (idxL c) j := by
  unfold mF txt
  by_cases h : 65 ≤ c.toNat ∧ c.toNat ≤ 90
  · have hi : idxL c = c.toNat - 65 := by unfold idxL; rw [if_pos h]
    rw [hi, if_pos (by omega)]
    have e : oneL (c.toNat - 65) = oneB c := by
      unfold oneL oneB
      have : UInt8.ofNat (65 + (c.toNat - 65)) = c := by
        rw [show 65 + (c.toNat - 65) = c.toNat by omega]
        exact UInt8.ofNat_toNat
      rw [this]
    rw [e]
  · have hi : idxL c = 26 := by unfold idxL; rw [if_neg h]
    rw [hi, if_neg (by omega)]
    have hs : subT rs (oneB c) = oneB c := by
      rcases subT_cases rs (oneB c) with ⟨r, hr, e1, _⟩ | ⟨_, e⟩
      · have := (rule_ok (hR r hr)).1
        rw [e1] at this
        unfold ltrB ltr hdI at this
        simp [oneB] at this
        omega
      · exact e
    rw [hs]
    show cnt [c] j = unitF 26 j
    unfold cnt unitF
    rw [List.countP_singleton, hi]
    by_cases e : j = 26
    · subst e; simp
    · rw [if_neg e]
      have : (26 == j) = false := by simp; omega
      rw [this]; simp
theorem cnt_once {rs : List RuleV} (hR : ∀ r ∈ rs, ruleB r = true) (l : List UInt8) : cnt (onceM rs l) = stp rs (cnt l) := by
  funext j
  unfold stp
  have key : ∀ (a b : List UInt8), cnt (onceM rs a) j = acc rs (cnt a) 27 j → cnt (onceM rs (a ++ b)) j = acc rs (cnt (a ++ b)) 27 j := by
    intro a b
    induction b generalizing a with
    | nil => intro h; simpa using h
    | cons c b ih =>
      intro h
      have e : a ++ c :: b = (a ++ [c]) ++ b := by simp
      rw [e]
      apply ih
      have e2 : cnt (a ++ [c]) = upd (cnt a) (idxL c) (cnt a (idxL c) + 1) := by funext i; exact cnt_snoc a c i
      rw [e2, acc_upd, if_pos (idxL_lt c), ← h]
      unfold onceM
      rw [List.flatMap_append, cnt_append]
      simp only [List.flatMap_cons, List.flatMap_nil, List.append_nil]
      rw [txt_cnt hR]
  have := key [] l (by
    show cnt [] j = _
    have hz : ∀ n, acc rs (cnt []) n j = 0 := by
      intro n
      induction n with
      | zero => rfl
      | succ n ih =>
        show acc rs (cnt []) n j + cnt [] n * mF rs n j = 0
        rw [ih]
        have : cnt [] n = 0 := rfl
        rw [this]; simp
    rw [hz]; rfl)
  simpa using this
theorem itF_eq {rs : List RuleV} (hR : ∀ r ∈ rs, ruleB r = true) (s : ByteArray) : ∀ n, itF rs s n = cnt (itM rs s.data.toList n)
  | 0 => rfl
  | n + 1 => by
    show stp rs (itF rs s n) = _
    rw [itF_eq hR s n, ← cnt_once hR]
    rfl
theorem itO_of {rs : List RuleV} (hR : ∀ r ∈ rs, ruleB r = true) {s : ByteArray} {n : Nat} (h : ∀ k, k ≤ n → (itM rs s.data.toList k).length ≤ 1000000000000) : itO rs s n = true := by
  unfold itO
  rw [List.all_eq_true]
  intro k hk
  have hk := List.mem_range.1 hk
  refine okS_all fun j _ => ?_
  rw [itF_eq hR]
  have h1 := (cnt_le (itM rs s.data.toList (k + 1)) j).2
  have h2 := h (k + 1) (by omega)
  omega
end Go.Proofs.Ytfblpibioegmkaa
