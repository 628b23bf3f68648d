/- What merging two sorted runs by rotating comes to: lists alone. -/
import Derived.Test.YtidpmbbkpclccaaMergeB
namespace Go.Proofs.Ytidpmbbkpclccaa
set_option linter.all false

def rotT (arr : List ArcI) (s m e : Nat) : List ArcI := arr.take s ++ (arr.drop m).take (e - m) ++ (arr.drop s).take (m - s) ++ arr.drop e
theorem cut4 (arr : List ArcI) {s m e : Nat} (h1 : s ≤ m) (h2 : m ≤ e) (h3 : e ≤ arr.length) : arr = arr.take s ++ (arr.drop s).take (m - s) ++ (arr.drop m).take (e - m) ++ arr.drop e := by
  apply List.ext_getElem?
  intro k
  simp only [List.getElem?_append, List.length_append, List.length_take, List.length_drop, List.getElem?_take, List.getElem?_drop]
  repeat' split
  all_goals first | rfl | omega | (congr 1; omega) | (rw [List.getElem?_eq_none (by omega)]; done) | (rw [List.getElem?_eq_none (by omega), List.getElem?_eq_none (by omega)])
theorem rotT_inv (arr : List ArcI) {s m e : Nat} (h1 : s ≤ m) (h2 : m ≤ e) (h3 : e ≤ arr.length) : RotInv m (rotT arr s m e) arr (m - s) (e - m) :=
  ⟨arr.take s, (arr.drop s).take (m - s), (arr.drop m).take (e - m), arr.drop e, cut4 arr h1 h2 h3, rfl, by rw [List.length_take]; omega, by rw [List.length_take, List.length_drop]; omega, by rw [List.length_take, List.length_drop]; omega⟩
theorem rotT_get (arr : List ArcI) {s m e : Nat} (h1 : s ≤ m) (h2 : m ≤ e) (h3 : e ≤ arr.length) (p : Nat) :
    (rotT arr s m e)[p]? = if p < s then arr[p]? else if p < s + (e - m) then arr[m + (p - s)]? else if p < e then arr[s + (p - (s + (e - m)))]? else arr[p]? := by
  unfold rotT
  simp only [List.getElem?_append, List.length_append, List.length_take, List.length_drop, List.getElem?_take, List.getElem?_drop]
  repeat' split
  all_goals first | rfl | omega | (congr 1; omega) | (rw [List.getElem?_eq_none (by omega)]; done) | (rw [List.getElem?_eq_none (by omega), List.getElem?_eq_none (by omega)])
theorem rotT_getD (arr : List ArcI) {s m e : Nat} (h1 : s ≤ m) (h2 : m ≤ e) (h3 : e ≤ arr.length) (p : Nat) :
    (rotT arr s m e).getD p default = if p < s then arr.getD p default else if p < s + (e - m) then arr.getD (m + (p - s)) default else if p < e then arr.getD (s + (p - (s + (e - m)))) default else arr.getD p default := by
  rw [List.getD_eq_getElem?_getD, rotT_get arr h1 h2 h3]
  repeat' split
  all_goals simp [List.getD_eq_getElem?_getD]
theorem rotT_shuf (arr : List ArcI) {x y s m e : Nat} (hx : x ≤ s) (h1 : s ≤ m) (h2 : m ≤ e) (hy : e ≤ y) (h3 : e ≤ arr.length) : Shuf arr (rotT arr s m e) x y := by
  refine ⟨?_, fun k hk => ?_, fun k hk => ?_⟩
  · have h := cut4 arr h1 h2 h3
    have hp : (rotT arr s m e).Perm (arr.take s ++ (arr.drop s).take (m - s) ++ (arr.drop m).take (e - m) ++ arr.drop e) := by
      unfold rotT
      refine List.Perm.append_right _ ?_
      rw [List.append_assoc, List.append_assoc]
      exact List.Perm.append_left _ List.perm_append_comm
    rwa [← h] at hp
  · rw [rotT_get arr h1 h2 h3, if_pos (by omega)]
  · rw [rotT_get arr h1 h2 h3, if_neg (by omega), if_neg (by omega), if_neg (by omega)]
theorem merge_halves {arr : List ArcI} {x m y s e : Nat} (hx : x ≤ s) (h1 : s ≤ m) (h2 : m ≤ e) (hy : e ≤ y) (h3 : y ≤ arr.length) (s1 : SortedOn arr x m) (s2 : SortedOn arr m y)
    (F1 : ∀ c q, x ≤ c → c < s → e ≤ q → q < y → leA (arr.getD c default) (arr.getD q default)) (F2 : ∀ c q, s ≤ c → c < m → m ≤ q → q < e → leA (arr.getD q default) (arr.getD c default)) :
    SortedOn (rotT arr s m e) x s ∧ SortedOn (rotT arr s m e) s (s + (e - m)) ∧ SortedOn (rotT arr s m e) (s + (e - m)) e ∧ SortedOn (rotT arr s m e) e y ∧
    ∀ p q, x ≤ p → p < s + (e - m) → s + (e - m) ≤ q → q < y → leA ((rotT arr s m e).getD p default) ((rotT arr s m e).getD q default) := by
  have g := rotT_getD arr h1 h2 (Nat.le_trans hy h3)
  refine ⟨fun p q a b c => ?_, fun p q a b c => ?_, fun p q a b c => ?_, fun p q a b c => ?_, fun p q a b c d => ?_⟩
  · rw [g, g, if_pos (by omega), if_pos c]; exact s1 p q a b (by omega)
  · rw [g, g, if_neg (show ¬ p < s by omega), if_pos (show p < s + (e - m) by omega), if_neg (show ¬ q < s by omega), if_pos c]; exact s2 _ _ (by omega) (by omega) (by omega)
  · rw [g, g, if_neg (show ¬ p < s by omega), if_neg (show ¬ p < s + (e - m) by omega), if_pos (show p < e by omega), if_neg (show ¬ q < s by omega), if_neg (show ¬ q < s + (e - m) by omega), if_pos c]; exact s1 _ _ (by omega) (by omega) (by omega)
  · rw [g, g, if_neg (by omega), if_neg (by omega), if_neg (by omega), if_neg (by omega), if_neg (by omega), if_neg (by omega)]; exact s2 _ _ (by omega) b c
  · rw [g, g, if_neg (show ¬ q < s by omega), if_neg (show ¬ q < s + (e - m) by omega)]
    by_cases p1 : p < s
    · rw [if_pos p1]
      by_cases q1 : q < e
      · rw [if_pos q1]; exact s1 _ _ a (by omega) (by omega)
      · rw [if_neg q1]; exact F1 p q a p1 (by omega) d
    · rw [if_neg p1, if_pos b]
      by_cases q1 : q < e
      · rw [if_pos q1]; exact F2 _ _ (by omega) (by omega) (by omega) (by omega)
      · rw [if_neg q1]; exact s2 _ _ (by omega) (by omega) d
theorem cut3 (l : List ArcI) {x y : Nat} (h : x ≤ y) (hy : y ≤ l.length) : l = l.take x ++ (l.drop x).take (y - x) ++ l.drop y := by
  apply List.ext_getElem?
  intro k
  simp only [List.getElem?_append, List.length_append, List.length_take, List.length_drop, List.getElem?_take, List.getElem?_drop]
  repeat' split
  all_goals first | rfl | omega | (congr 1; omega) | (rw [List.getElem?_eq_none (by omega)]; done) | (rw [List.getElem?_eq_none (by omega), List.getElem?_eq_none (by omega)])
theorem Shuf.seg {a b : List ArcI} {x y : Nat} (h : Shuf a b x y) (hxy : x ≤ y) (hy : y ≤ a.length) : ((b.drop x).take (y - x)).Perm ((a.drop x).take (y - x)) := by
  have e1 : b.take x = a.take x := by
    apply List.ext_getElem?
    intro k
    rw [List.getElem?_take, List.getElem?_take]
    split
    · exact h.pre k (by assumption)
    · rfl
  have e2 : b.drop y = a.drop y := by
    apply List.ext_getElem?
    intro k
    rw [List.getElem?_drop, List.getElem?_drop]
    exact h.post _ (by omega)
  have hp := h.perm
  rw [cut3 a hxy hy, cut3 b hxy (by rw [h.len]; exact hy), e1, e2, List.perm_append_right_iff, List.perm_append_left_iff] at hp
  exact hp
theorem Shuf.mem {a b : List ArcI} {x y : Nat} (h : Shuf a b x y) (hy : y ≤ a.length) {p : Nat} (hp : x ≤ p) (hp' : p < y) : ∃ p', x ≤ p' ∧ p' < y ∧ b.getD p default = a.getD p' default := by
  have hl := h.len
  have hm : b.getD p default ∈ (b.drop x).take (y - x) := by
    rw [List.mem_iff_getElem?]
    refine ⟨p - x, ?_⟩
    rw [List.getElem?_take, if_pos (by omega), List.getElem?_drop, show x + (p - x) = p by omega, List.getD_eq_getElem?_getD, List.getElem?_eq_getElem (by omega)]
    rfl
  have hm2 := (h.seg (by omega) hy).mem_iff.1 hm
  rw [List.mem_iff_getElem?] at hm2
  obtain ⟨i, hi⟩ := hm2
  rw [List.getElem?_take] at hi
  split at hi
  · rename_i hlt
    rw [List.getElem?_drop] at hi
    refine ⟨x + i, by omega, by omega, ?_⟩
    rw [List.getD_eq_getElem?_getD (l := a), hi]; rfl
  · cases hi
theorem merge_fin {T T1 T2 : List ArcI} {x mid y : Nat} (hxm : x ≤ mid) (hmy : mid ≤ y) (hy : y ≤ T.length) (h1 : Shuf T T1 x mid) (s1 : SortedOn T1 x mid) (h2 : Shuf T1 T2 mid y) (s2 : SortedOn T2 mid y)
    (hc : ∀ p q, x ≤ p → p < mid → mid ≤ q → q < y → leA (T.getD p default) (T.getD q default)) : SortedOn T2 x y := by
  intro p q hp hpq hq
  have hl1 := h1.len
  by_cases q1 : q < mid
  · rw [getD_of_get (h2.pre p (by omega)), getD_of_get (h2.pre q q1)]; exact s1 p q hp hpq q1
  · by_cases p1 : p < mid
    · obtain ⟨p', a1, a2, a3⟩ := h1.mem (by omega) hp p1
      obtain ⟨q', b1, b2, b3⟩ := h2.mem (by omega) (show mid ≤ q by omega) hq
      rw [getD_of_get (h2.pre p p1), a3, b3, getD_of_get (h1.post q' b1)]
      exact hc p' q' a1 a2 b1 b2
    · exact s2 p q (by omega) hpq hq
/-- What the search for the first place has found. -/
theorem search_F {arr : List ArcI} {x m y s : Nat} (hxm : x < m) (hmy : m < y) (s1 : SortedOn arr x m) (s2 : SortedOn arr m y) {s0 r0 : Nat}
    (hs0 : (m > (x + y) / 2 ∧ s0 + y = (x + y) / 2 + m ∧ r0 = (x + y) / 2) ∨ (m ≤ (x + y) / 2 ∧ s0 = x ∧ r0 = m)) (h0 : s0 ≤ s) (h1 : s ≤ r0)
    (A : ∀ c, s0 ≤ c → c < s → leA (arr.getD c default) (arr.getD ((x + y) / 2 + m - 1 - c) default)) (B : ∀ c, s ≤ c → c < r0 → ¬ leA (arr.getD c default) (arr.getD ((x + y) / 2 + m - 1 - c) default)) :
    x ≤ s ∧ s ≤ m ∧ s ≤ (x + y) / 2 ∧ m ≤ (x + y) / 2 + m - s ∧ (x + y) / 2 + m - s ≤ y ∧ s + ((x + y) / 2 + m - s - m) = (x + y) / 2 ∧
    (∀ c q, x ≤ c → c < s → (x + y) / 2 + m - s ≤ q → q < y → leA (arr.getD c default) (arr.getD q default)) ∧
    (∀ c q, s ≤ c → c < m → m ≤ q → q < (x + y) / 2 + m - s → leA (arr.getD q default) (arr.getD c default)) := by
  refine ⟨by omega, by omega, by omega, by omega, by omega, by omega, fun c q hc hcs hq hqy => ?_, fun c q hc hcm hq hqe => ?_⟩
  · have hs : s0 < s := by omega
    have h := A (s - 1) (by omega) (by omega)
    have e : (x + y) / 2 + m - 1 - (s - 1) = (x + y) / 2 + m - s := by omega
    rw [e] at h
    have l1 : leA (arr.getD c default) (arr.getD (s - 1) default) := by
      by_cases e : c = s - 1
      · rw [e]; exact leA_refl _
      · exact s1 c (s - 1) hc (by omega) (by omega)
    have l2 : leA (arr.getD ((x + y) / 2 + m - s) default) (arr.getD q default) := by
      by_cases e : q = (x + y) / 2 + m - s
      · rw [e]; exact leA_refl _
      · exact s2 _ q (by omega) (by omega) hqy
    exact leA_trans l1 (leA_trans h l2)
  · have hs : s < r0 := by omega
    have h := B s (Nat.le_refl _) hs
    have h' := (leA_total (arr.getD s default) (arr.getD ((x + y) / 2 + m - 1 - s) default)).resolve_left h
    have l1 : leA (arr.getD q default) (arr.getD ((x + y) / 2 + m - 1 - s) default) := by
      by_cases e : q = (x + y) / 2 + m - 1 - s
      · rw [e]; exact leA_refl _
      · exact s2 q _ hq (by omega) (by omega)
    have l2 : leA (arr.getD s default) (arr.getD c default) := by
      by_cases e : c = s
      · rw [e]; exact leA_refl _
      · exact s1 s c (by omega) (by omega) hcm
    exact leA_trans l1 (leA_trans h' l2)
end Go.Proofs.Ytidpmbbkpclccaa
