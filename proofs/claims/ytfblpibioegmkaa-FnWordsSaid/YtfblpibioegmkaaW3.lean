/- FnWords: what the calls give, told by lists; a rule put. Plain. -/
import Derived.Test.YtfblpibioegmkaaW2
import Derived.Test.YtfblpibioegmkaaPF
namespace Go.Proofs.Ytfblpibioegmkaa
open Go.RowKit

section
variable {s : ByteArray} {rs : List RuleV}
theorem gram_word (h : gramB s rs = true) : s.data.toList.all okc = true := by
  unfold gramB wordB at h
  simp only [Bool.and_eq_true] at h
  exact h.2.1.2
theorem word_of {l : List UInt8} {n : Int} (h1 : (l.length : Int) ≤ n) (h2 : l.all okc = true) : wordB n l = true := by
  unfold wordB; rw [h2, decide_eq_true h1]; rfl
theorem DG.it (D : DG s rs) {k : Nat} (hk : k ≤ 4) : itB rs s k = true ∧ (itT rs s k).data.toList = itM rs s.data.toList k := it_eq k (fun j hj => D.words j (by omega))
theorem DG.rp (D : DG s rs) {k : Nat} (hk : k ≤ 4) : rpB s rs k = true ∧ rpV s rs k = itT rs s k ∧ wordB 4000 (itT rs s k).data.toList = true ∧ (itT rs s k).size ≤ 4000 := by
  obtain ⟨h1, h2⟩ := D.it hk
  have hok : rpOk s rs k = true := by unfold rpOk; rw [D.gram, decide_eq_true (by omega), decide_eq_true (by omega)]; rfl
  have hb : rpB s rs k = true := by unfold rpB; rw [hok]; simpa using h1
  have hl := D.words k hk
  have hsz : (itT rs s k).data.toList.length = (itT rs s k).size := Array.length_toList
  refine ⟨hb, by unfold rpV; rw [hb, if_pos rfl, Int.toNat_natCast], word_of (by rw [h2]; omega) (by rw [h2]; exact itM_good (gram_rule D.gram) (gram_word D.gram) k), by rw [← hsz, h2]; exact hl⟩
theorem DG.rw (D : DG s rs) {k : Nat} (hk : k ≤ 3) : rwB s rs (itT rs s k) = true ∧ rwV s rs (itT rs s k) = itT rs s (k + 1) := by
  obtain ⟨h1, _⟩ := D.it (show k + 1 ≤ 4 by omega)
  rw [itB_succ, Bool.and_eq_true] at h1
  obtain ⟨e1, e2⟩ := rw_yes D.gram (D.rp (show k ≤ 4 by omega)).2.2.1
  exact ⟨by rw [e1]; exact h1.2, e2⟩
theorem DG.la (D : DG s rs) {k : Nat} (hk : k ≤ 3) : laB s rs k = true ∧ itF rs s k = cnt (itT rs s k).data.toList ∧ loV s rs k = cnt (itT rs s k).data.toList 5 := by
  have hR := gram_rule D.gram
  have h1 : laB s rs k = true := by
    rw [la_yes D.gram (by omega)]
    exact itO_of hR (fun j hj => Nat.le_trans (D.words j (by omega)) (by decide))
  have h2 : itF rs s k = cnt (itT rs s k).data.toList := by rw [itF_eq hR, (D.it (show k ≤ 4 by omega)).2]
  exact ⟨h1, h2, by unfold loV; rw [h1, if_pos rfl, Int.toNat_natCast, h2]⟩
theorem DG.once (D : DG s rs) {t : ByteArray} (hl : t.size ≤ 16) (hg : t.data.toList.all okc = true) : rwB s rs t = true ∧ rwV s rs t = ⟨(onceM rs t.data.toList).toArray⟩ := by
  have hsz : t.data.toList.length = t.size := Array.length_toList
  have hm := onceM_len D.small t.data.toList
  have hle : (onceM rs t.data.toList).length ≤ 4000 := by omega
  obtain ⟨e1, e2⟩ := rw_yes D.gram (word_of (n := 4000) (by omega) hg)
  exact ⟨by rw [e1, onceB_eq, decide_eq_true hle], by rw [e2, onceV_eq hle]⟩
theorem once_split (l m : List UInt8) : (⟨(onceM rs (l ++ m)).toArray⟩ : ByteArray) = ⟨(onceM rs l).toArray⟩ ++ ⟨(onceM rs m).toArray⟩ := by
  rw [bytes_append]
  unfold onceM
  rw [List.flatMap_append]
end

/-! A rule put. -/
def qR : RuleV := (⟨#[81]⟩, ⟨#[70, 45, 81]⟩)
theorem qR_ok : ruleB qR = true := by decide +kernel
theorem qR_hd : hdI qR.1 = 81 := by decide
section
variable {h : RuleV → Int} {r : RuleV}
theorem putL_new : ∀ {l : List RuleV}, (∀ x ∈ l, h x ≠ h r) → (putL h r l).length = l.length + 1
  | [], _ => rfl
  | x :: l, hx => by
    have h1 := hx x (by simp)
    have ih := putL_new (l := l) (fun y hy => hx y (by simp [hy]))
    unfold putL
    split
    · simp [ih]
    · first | rfl | (rw [if_neg h1]; rfl)
theorem putL_again : ∀ l : List RuleV, putL h r (putL h r l) = putL h r l
  | [] => by
    show putL h r [r] = [r]
    unfold putL
    rw [if_neg (by omega), if_pos rfl]
  | x :: l => by
    have ih := putL_again l
    by_cases h1 : h x < h r
    · have e : putL h r (x :: l) = x :: putL h r l := by
        show (if h x < h r then _ else _) = _
        rw [if_pos h1]
      rw [e]
      show (if h x < h r then x :: putL h r (putL h r l) else _) = _
      rw [if_pos h1, ih]
    · by_cases h2 : h x = h r
      · have e : putL h r (x :: l) = r :: l := by
          show (if h x < h r then _ else if h x = h r then _ else _) = _
          rw [if_neg h1, if_pos h2]
        rw [e]
        show (if h r < h r then _ else if h r = h r then _ else _) = _
        rw [if_neg (by omega), if_pos rfl]
      · have e : putL h r (x :: l) = r :: x :: l := by
          show (if h x < h r then _ else if h x = h r then _ else _) = _
          rw [if_neg h1, if_neg h2]
        rw [e]
        show (if h r < h r then _ else if h r = h r then _ else _) = _
        rw [if_neg (by omega), if_pos rfl]
theorem putL_has : ∀ l : List RuleV, r ∈ putL h r l
  | [] => by simp [putL]
  | x :: l => by
    unfold putL
    split
    · exact List.mem_cons_of_mem _ (putL_has l)
    · split <;> simp
theorem putL_srt : ∀ {l : List RuleV}, Srt h l → Srt h (putL h r l)
  | [], _ => by simp [putL, Srt]
  | x :: l, hs => by
    obtain ⟨h1, h2⟩ := List.pairwise_cons.1 hs
    unfold putL
    split
    · rename_i hlt
      refine List.pairwise_cons.2 ⟨fun y hy => ?_, putL_srt h2⟩
      rcases putL_mem hy with e | e
      · rw [e]; exact hlt
      · exact h1 y e
    · split
      · rename_i _ heq
        exact List.pairwise_cons.2 ⟨fun y hy => by have := h1 y hy; omega, h2⟩
      · refine List.pairwise_cons.2 ⟨fun y hy => ?_, hs⟩
        rcases List.mem_cons.1 hy with e | e
        · rw [e]; omega
        · have := h1 y e; omega
end
theorem rulesB_of {l : List RuleV} (h1 : ∀ r ∈ l, ruleB r = true) (h2 : Srt (fun x : RuleV => hdI x.1) l) : rulesB l = true := by
  unfold rulesB
  rw [List.all_eq_true]
  intro k hk
  have hk := List.mem_range.1 hk
  have a := h1 _ (List.getElem_mem hk)
  unfold okAt
  rw [okAt_at hk, a]
  by_cases h0 : k = 0
  · rw [decide_eq_true h0]; rfl
  · have hk1 : k - 1 < l.length := by omega
    rw [okAt_at hk1, le_one (rule_size a) (rule_size (h1 _ (List.getElem_mem hk1)))]
    have := srt_at h2 hk (show k - 1 < k by omega)
    rw [decide_eq_false (p := hdI l[k].1 ≤ hdI l[k - 1].1) (by omega)]
    simp
theorem gram_of {s : ByteArray} {l : List RuleV} (hs : wordB 32 s.data.toList = true) (h1 : ∀ r ∈ l, ruleB r = true) (h2 : Srt (fun x : RuleV => hdI x.1) l) (h3 : l.length ≤ 8) : gramB s l = true := by
  unfold gramB
  rw [rulesB_of h1 h2, hs, decide_eq_true h3]; rfl
theorem gram_s {s : ByteArray} {rs : List RuleV} (h : gramB s rs = true) : wordB 32 s.data.toList = true := by
  unfold gramB at h
  simp only [Bool.and_eq_true] at h
  exact h.2.1
theorem size_one {a : ByteArray} (h : a.size = 1) : a = oneB (a.data.toList.headD 0) := byte_of h
theorem DG.put {s : ByteArray} {rs : List RuleV} (D : DG s rs) : ∃ l, putV s rs qR = some l ∧ gramB s l = true ∧ l.length = rs.length + 1 ∧ putV s l qR = some l ∧ rwB s l ⟨#[81]⟩ = true ∧ rwV s l ⟨#[81]⟩ = ⟨#[70, 45, 81]⟩ := by
  obtain ⟨_, _, hsrt⟩ := gram_parts D.gram
  obtain ⟨l, hl⟩ : ∃ l, l = putL (fun x : RuleV => hdI x.1) qR rs := ⟨_, rfl⟩
  have hmem : ∀ x ∈ l, x = qR ∨ x ∈ rs := fun x hx => by rw [hl] at hx; exact putL_mem hx
  have hrule : ∀ x ∈ l, ruleB x = true := fun x hx => by
    rcases hmem x hx with e | e
    · rw [e]; exact qR_ok
    · exact gram_rule D.gram x e
  have hsl : Srt (fun x : RuleV => hdI x.1) l := by rw [hl]; exact putL_srt hsrt
  have hlen : l.length = rs.length + 1 := by rw [hl]; exact putL_new (fun x hx => by rw [qR_hd]; exact D.noQ x hx)
  have hg : gramB s l = true := gram_of (gram_s D.gram) hrule hsl (by have := D.len; omega)
  have hag : putL (fun x : RuleV => hdI x.1) qR l = l := by rw [hl]; exact putL_again rs
  have ht : subT l (oneB 81) = ⟨#[70, 45, 81]⟩ := by
    rcases subT_cases l (oneB 81) with ⟨x, hx, e1, e2⟩ | ⟨hn, _⟩
    · rcases hmem x hx with e | e
      · rw [e2, e]; rfl
      · exfalso
        refine D.noQ x e ?_
        rw [e1]; decide
    · exact absurd rfl (hn qR (by rw [hl]; exact putL_has rs))
  have h1 : onceM l (oneB 81).data.toList = [70, 45, 81] := by
    show onceM l [81] = _
    unfold onceM txt
    simp [ht]
  have h2 : (onceM l (oneB 81).data.toList).length ≤ 4000 := by rw [h1]; decide
  obtain ⟨e1, e2⟩ := rw_yes (t := oneB 81) hg (by decide +kernel)
  refine ⟨l, ?_, hg, hlen, ?_, ?_, ?_⟩
  · unfold putV
    rw [D.gram, qR_ok, ← hl, hg]; rfl
  · unfold putV
    rw [hg, qR_ok, hag, hg]; rfl
  · show rwB s l (oneB 81) = true
    rw [e1, onceB_eq, decide_eq_true h2]
  · show rwV s l (oneB 81) = _
    rw [e2, onceV_eq h2, h1]
end Go.Proofs.Ytfblpibioegmkaa
