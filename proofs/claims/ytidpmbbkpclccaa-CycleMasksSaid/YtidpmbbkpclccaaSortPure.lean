/- Sorted and compacted: a rising list of the same members: pure. -/
import Derived.Lib.SlicesCompact
import Derived.Test.YtidpmbbkpclccaaSetPure
namespace Go.Proofs.Ytidpmbbkpclccaa
set_option linter.all false
open Go.RowKit

section
variable {α : Type} [Inhabited α] [DecidableEq α] {le lt : α → α → Prop}
theorem get_bang (zs : List α) (j : Nat) (hj : j < zs.length) : zs.toArray[j]! = zs[j] := by simp [getElem!_pos, hj]
theorem sorted_get {zs : List α} (h : zs.Pairwise le) (hr : ∀ a, le a a) {i j : Nat} (hij : i ≤ j) (hj : j < zs.length) : le (zs[i]'(by omega)) zs[j] := by
  rcases Nat.lt_or_ge i j with h1 | h1
  · exact List.pairwise_iff_getElem.1 h i j (by omega) hj h1
  · have : i = j := by omega
    subst this
    exact hr _
theorem compact_rise {zs : List α} (h : zs.Pairwise le) (hr : ∀ a, le a a) (hlt : ∀ a b, le a b → a ≠ b → lt a b) (htr : ∀ a b c, le a b → lt b c → lt a c) : (Lib.compact zs).Pairwise lt := by
  rw [Lib.compact, Lib.compactUpTo, List.pairwise_map]
  refine List.Pairwise.imp_of_mem ?_ (List.Pairwise.filter _ List.pairwise_lt_range)
  intro i j hi hj hij
  obtain ⟨hi1, hi2⟩ := List.mem_filter.1 hi
  obtain ⟨hj1, hj2⟩ := List.mem_filter.1 hj
  have hjl := List.mem_range.1 hj1
  have hne : zs.toArray[j]! ≠ zs.toArray[j - 1]! := by
    rcases of_decide_eq_true hj2 with e | e
    · omega
    · exact e
  rw [get_bang zs j hjl, get_bang zs (j - 1) (by omega)] at hne
  rw [get_bang zs i (by omega), get_bang zs j hjl]
  exact htr _ _ _ (sorted_get h hr (show i ≤ j - 1 by omega) (by omega)) (hlt _ _ (sorted_get h hr (show j - 1 ≤ j by omega) hjl) (fun e => hne e.symm))
omit [Inhabited α] [DecidableEq α] in
theorem first_at [Inhabited α] [DecidableEq α] (zs : List α) {x : α} : ∀ n, n < zs.length → zs.toArray[n]! = x → ∃ j, j ≤ n ∧ zs.toArray[j]! = x ∧ Lib.keeps zs.toArray j = true
  | 0, _, e => ⟨0, Nat.le_refl _, e, by simp [Lib.keeps]⟩
  | n + 1, hn, e => by
    by_cases h : zs.toArray[n]! = x
    · obtain ⟨j, hj, e1, e2⟩ := first_at zs n (by omega) h
      exact ⟨j, by omega, e1, e2⟩
    · refine ⟨n + 1, Nat.le_refl _, e, ?_⟩
      have : zs.toArray[n + 1]! ≠ zs.toArray[n + 1 - 1]! := by rw [e]; exact fun h' => h h'.symm
      simp only [Lib.keeps, decide_eq_true_eq]
      exact .inr this
theorem mem_compact {zs : List α} {x : α} : x ∈ Lib.compact zs ↔ x ∈ zs := by
  rw [Lib.compact, Lib.compactUpTo, List.mem_map]
  constructor
  · rintro ⟨j, hj, rfl⟩
    have hjl := List.mem_range.1 (List.mem_filter.1 hj).1
    show zs.toArray[j]! ∈ zs
    rw [get_bang zs j hjl]
    exact List.getElem_mem hjl
  · intro hx
    obtain ⟨n, hn, e⟩ := List.getElem_of_mem hx
    obtain ⟨j, hj, e1, e2⟩ := first_at (x := x) zs n hn (by rw [get_bang zs n hn, e])
    exact ⟨j, List.mem_filter.2 ⟨List.mem_range.2 (by omega), e2⟩, e1⟩
end
theorem sortI_pair (l : List Int) : (l.mergeSort fun x y => decide (x ≤ y)).Pairwise (· ≤ ·) := by
  have := List.pairwise_mergeSort (le := fun x y : Int => decide (x ≤ y)) (fun a b c h1 h2 => by simp only [decide_eq_true_eq] at *; omega) (fun a b => by simp only [Bool.or_eq_true, decide_eq_true_eq]; omega) l
  exact this.imp (fun h => of_decide_eq_true h)
/-- Sorted and compacted: the set. -/
theorem compact_sortI (l : List Int) : Lib.compact (l.mergeSort fun x y => decide (x ≤ y)) = ofI l :=
  rise_extI (compact_rise (sortI_pair l) (fun _ => Int.le_refl _) (fun a b h1 h2 => by omega) (fun a b c h1 h2 => by omega)) (rise_ofI l)
    (fun x => by rw [mem_compact, mem_ofI]; exact (List.mergeSort_perm l _).mem_iff)
end Go.Proofs.Ytidpmbbkpclccaa
