/- What is led to, again and again: pure. -/
import Derived.Test.YtdihpobegoihkaaDoorSetPure
namespace Go.Proofs.YtdihpobegoihkaaDoor
set_option linter.all false
open Go.RowKit

/-- One step more. -/
def stepP (n : Nat) (E : Nat → Nat → Bool) (p : Nat → Bool) : Nat → Bool := fun w => p w || (List.range n).any (fun u => p u && E u w)
/-- So many steps. -/
def iterP (n : Nat) (E : Nat → Nat → Bool) (p : Nat → Bool) : Nat → Nat → Bool
  | 0 => p
  | k + 1 => stepP n E (iterP n E p k)
theorem stepP_iff {n : Nat} {E : Nat → Nat → Bool} {p : Nat → Bool} {w : Nat} : stepP n E p w = true ↔ p w = true ∨ ∃ u, u < n ∧ p u = true ∧ E u w = true := by
  simp only [stepP, Bool.or_eq_true, List.any_eq_true, List.mem_range, Bool.and_eq_true]
theorem iterP_mono {n : Nat} {E : Nat → Nat → Bool} {p : Nat → Bool} : ∀ k w, iterP n E p k w = true → iterP n E p (k + 1) w = true := fun k w h => stepP_iff.2 (.inl h)
theorem iterP_start {n : Nat} {E : Nat → Nat → Bool} {p : Nat → Bool} {w : Nat} (h : p w = true) : ∀ k, iterP n E p k w = true
  | 0 => h
  | k + 1 => iterP_mono k w (iterP_start h k)
theorem iterP_sound {n : Nat} {E : Nat → Nat → Bool} {p : Nat → Bool} : ∀ k w, iterP n E p k w = true → ∃ u, p u = true ∧ (u = w ∨ Reach E u w)
  | 0, w, h => ⟨w, h, .inl rfl⟩
  | k + 1, w, h => by
    rcases stepP_iff.1 h with h | ⟨v, _, h1, h2⟩
    · exact iterP_sound k w h
    · obtain ⟨u, hu, hr⟩ := iterP_sound k v h1
      refine ⟨u, hu, .inr ?_⟩
      rcases hr with rfl | hr
      · exact .one h2
      · exact hr.snoc h2
theorem filter_len_lt {l : List Nat} {p q : Nat → Bool} (h : ∀ x, p x = true → q x = true) {w : Nat} (hw : w ∈ l) (h1 : q w = true) (h2 : p w = false) : (l.filter p).length < (l.filter q).length := by
  induction l with
  | nil => cases hw
  | cons x xs ih =>
    have hle : (xs.filter p).length ≤ (xs.filter q).length := by
      clear ih hw
      induction xs with
      | nil => simp
      | cons y ys ih =>
        cases hp : p y with
        | true => rw [List.filter_cons_of_pos hp, List.filter_cons_of_pos (h y hp)]; simpa using ih
        | false =>
          rw [List.filter_cons_of_neg (by simp [hp])]
          cases hq : q y with
          | true => rw [List.filter_cons_of_pos hq]; simp; omega
          | false => rw [List.filter_cons_of_neg (by simp [hq])]; exact ih
    rcases List.mem_cons.1 hw with rfl | hw
    · rw [List.filter_cons_of_neg (by simp [h2]), List.filter_cons_of_pos h1]; simp; omega
    · have := ih hw
      cases hp : p x with
      | true => rw [List.filter_cons_of_pos hp, List.filter_cons_of_pos (h x hp)]; simpa using this
      | false =>
        rw [List.filter_cons_of_neg (by simp [hp])]
        cases hq : q x with
        | true => rw [List.filter_cons_of_pos hq]; simp; omega
        | false => rw [List.filter_cons_of_neg (by simp [hq])]; exact this
/-- Behind so many steps nothing is new. -/
theorem iterP_stop {n : Nat} {E : Nat → Nat → Bool} {p : Nat → Bool} (hp : ∀ w, p w = true → w < n) (hE : ∀ u w, E u w = true → w < n) : ∃ k, k ≤ n ∧ ∀ w, iterP n E p (k + 1) w = iterP n E p k w := by
  have hlt : ∀ k w, iterP n E p k w = true → w < n := by
    intro k
    induction k with
    | zero => exact hp
    | succ k ih =>
      intro w h
      rcases stepP_iff.1 h with h | ⟨u, _, _, h⟩
      · exact ih w h
      · exact hE u w h
  have key : ∀ m, (∃ k, k < m ∧ ∀ w, iterP n E p (k + 1) w = iterP n E p k w) ∨ m ≤ (elems n (iterP n E p m)).length := by
    intro m
    induction m with
    | zero => exact .inr (Nat.zero_le _)
    | succ m ih =>
      rcases ih with ⟨k, hk, h⟩ | ih
      · exact .inl ⟨k, by omega, h⟩
      · by_cases h : ∀ w, iterP n E p (m + 1) w = iterP n E p m w
        · exact .inl ⟨m, by omega, h⟩
        · right
          obtain ⟨w, hw⟩ := Classical.not_forall.1 h
          have h1 : iterP n E p (m + 1) w = true := by
            cases h' : iterP n E p (m + 1) w with
            | true => rfl
            | false =>
              cases h'' : iterP n E p m w with
              | true => rw [iterP_mono m w h''] at h'; cases h'
              | false => rw [h', h''] at hw; exact absurd rfl hw
          have h2 : iterP n E p m w = false := by
            cases h'' : iterP n E p m w with
            | false => rfl
            | true => rw [h1, h''] at hw; exact absurd rfl hw
          have := filter_len_lt (l := List.range n) (iterP_mono m) (List.mem_range.2 (hlt (m + 1) w h1)) h1 h2
          have : (elems n (iterP n E p m)).length < (elems n (iterP n E p (m + 1))).length := this
          omega
  rcases key (n + 1) with ⟨k, hk, h⟩ | h
  · exact ⟨k, by omega, h⟩
  · have : (elems n (iterP n E p (n + 1))).length ≤ n := Nat.le_trans (List.length_filter_le _ _) (by rw [List.length_range]; omega)
    omega
theorem iterP_same {n : Nat} {E : Nat → Nat → Bool} {p : Nat → Bool} {k : Nat} (h : ∀ w, iterP n E p (k + 1) w = iterP n E p k w) : ∀ d w, iterP n E p (k + d) w = iterP n E p k w
  | 0, _ => rfl
  | d + 1, w => by
    have e : iterP n E p (k + d) = iterP n E p k := funext (iterP_same h d)
    show stepP n E (iterP n E p (k + d)) w = _
    rw [e]
    exact h w
/-- All that is led to, of what it begins with. -/
theorem iterP_all {n : Nat} {E : Nat → Nat → Bool} {p : Nat → Bool} (hp : ∀ w, p w = true → w < n) (hE : ∀ u w, E u w = true → w < n) {k : Nat} (hk : n ≤ k) (w : Nat) :
    iterP n E p k w = true ↔ ∃ u, p u = true ∧ (u = w ∨ Reach E u w) := by
  refine ⟨iterP_sound k w, ?_⟩
  obtain ⟨s, hs, hst⟩ := iterP_stop hp hE
  have hfix : ∀ v, iterP n E p k v = iterP n E p s v := fun v => by
    have := iterP_same hst (k - s) v
    rwa [show s + (k - s) = k by omega] at this
  have hcl : ∀ u w, iterP n E p s u = true → E u w = true → iterP n E p s w = true := fun u w hu hE' => by
    rw [← hst w]
    refine stepP_iff.2 (.inr ⟨u, ?_, hu, hE'⟩)
    obtain ⟨u0, h0, hr⟩ := iterP_sound s u hu
    rcases hr with rfl | hr
    · exact hp _ h0
    · have : ∀ a b, Reach E a b → b < n := fun a b h => by
        induction h with
        | one h => exact hE _ _ h
        | more _ _ ih => exact ih
      exact this _ _ hr
  rintro ⟨u, hu, rfl | hr⟩
  · exact iterP_start hu k
  · rw [hfix]
    have hu' := iterP_start (n := n) (E := E) hu s
    have : ∀ a b, Reach E a b → iterP n E p s a = true → iterP n E p s b = true := fun a b h => by
      induction h with
      | one h => exact fun ha => hcl _ _ ha h
      | more h _ ih => exact fun ha => ih (hcl _ _ ha h)
    exact this _ _ hr hu'
end Go.Proofs.YtdihpobegoihkaaDoor
