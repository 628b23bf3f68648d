/- How two lists stand: pure. -/
import Derived.Test.YtidpmbbkpclccaaSetPure
namespace Go.Proofs.Ytidpmbbkpclccaa
set_option linter.all false
open Go.RowKit

/-- Of two lists of one length: the first difference says it. -/
def lexS : List Int → List Int → Int
  | x :: xs, y :: ys => if x < y then -1 else if x > y then 1 else lexS xs ys
  | _, _ => 0
/-- The shorter one first, then by the first difference. -/
def cmpS (a b : List Int) : Int := if a.length < b.length then -1 else if a.length > b.length then 1 else lexS a b
theorem lexS_three : ∀ a b, lexS a b = -1 ∨ lexS a b = 0 ∨ lexS a b = 1
  | [], _ => .inr (.inl (by simp [lexS]))
  | _ :: _, [] => .inr (.inl (by simp [lexS]))
  | x :: xs, y :: ys => by
    rw [lexS]
    split
    · exact .inl rfl
    · split
      · exact .inr (.inr rfl)
      · exact lexS_three xs ys
theorem lexS_swap : ∀ a b, lexS b a = 0 - lexS a b
  | [], [] => rfl
  | [], _ :: _ => by simp [lexS]
  | _ :: _, [] => by simp [lexS]
  | x :: xs, y :: ys => by
    rw [lexS, lexS, lexS_swap xs ys]
    by_cases h : x < y
    · have h2 : ¬ y < x := by omega
      have h3 : y > x := h
      simp only [h, h2, h3, if_true, if_false]
      rfl
    · by_cases h2 : y < x
      · have h3 : x > y := h2
        simp only [h, h2, h3, if_true, if_false]
        rfl
      · have h3 : ¬ x > y := h2
        have h4 : ¬ y > x := h
        simp only [h, h2, h3, h4, if_false]
theorem lexS_zero : ∀ a b, a.length = b.length → (lexS a b = 0 ↔ a = b)
  | [], [], _ => by simp [lexS]
  | [], _ :: _, h => by simp at h
  | _ :: _, [], h => by simp at h
  | x :: xs, y :: ys, h => by
    rw [lexS]
    split
    · rename_i h1; constructor
      · intro h; omega
      · intro h; injection h with h; omega
    · split
      · rename_i h1; constructor
        · intro h; omega
        · intro h; injection h with h; omega
      · rw [lexS_zero xs ys (by simpa using h)]
        constructor
        · intro e; rw [e, show x = y by omega]
        · intro e; injection e
theorem lexS_trans : ∀ a b c, a.length = b.length → b.length = c.length → lexS a b ≤ 0 → lexS b c ≤ 0 → lexS a c ≤ 0
  | [], _, _, _, _, _, _ => by simp [lexS]
  | _ :: _, [], _, h, _, _, _ => by simp at h
  | _ :: _, _ :: _, [], _, h, _, _ => by simp at h
  | x :: xs, y :: ys, z :: zs, h1, h2, k1, k2 => by
    rw [lexS] at k1 k2 ⊢
    have ih := lexS_trans xs ys zs (by simpa using h1) (by simpa using h2)
    split at k1
    · split at k2
      · rw [if_pos (by omega)]; omega
      · split at k2
        · omega
        · rw [if_pos (by omega)]; omega
    · split at k1
      · omega
      · split at k2
        · rw [if_pos (by omega)]; omega
        · split at k2
          · omega
          · rw [if_neg (by omega), if_neg (by omega)]; exact ih k1 k2
theorem cmpS_three (a b : List Int) : cmpS a b = -1 ∨ cmpS a b = 0 ∨ cmpS a b = 1 := by
  rw [cmpS]
  split
  · exact .inl rfl
  · split
    · exact .inr (.inr rfl)
    · exact lexS_three a b
theorem cmpS_swap (a b : List Int) : cmpS b a = 0 - cmpS a b := by
  rw [cmpS, cmpS]
  by_cases h : a.length < b.length
  · rw [if_neg (by omega), if_pos (by omega), if_pos h]; rfl
  · by_cases h2 : a.length > b.length
    · rw [if_pos (by omega), if_neg h, if_pos h2]; rfl
    · rw [if_neg (by omega), if_neg (by omega), if_neg h, if_neg h2]; exact lexS_swap a b
theorem cmpS_zero (a b : List Int) : cmpS a b = 0 ↔ a = b := by
  rw [cmpS]
  split
  · constructor
    · intro h; omega
    · intro h; subst h; omega
  · split
    · constructor
      · intro h; omega
      · intro h; subst h; omega
    · exact lexS_zero a b (by omega)
theorem cmpS_self (a : List Int) : cmpS a a = 0 := (cmpS_zero a a).2 rfl
theorem cmpS_trans (a b c : List Int) (h1 : cmpS a b ≤ 0) (h2 : cmpS b c ≤ 0) : cmpS a c ≤ 0 := by
  rw [cmpS] at *
  split at h1
  · split at h2
    · rw [if_pos (by omega)]; omega
    · split at h2
      · omega
      · rw [if_pos (by omega)]; omega
  · split at h1
    · omega
    · split at h2
      · rw [if_pos (by omega)]; omega
      · split at h2
        · omega
        · rw [if_neg (by omega), if_neg (by omega)]; exact lexS_trans a b c (by omega) (by omega) h1 h2
theorem lexS_drop {a b : List Int} {i : Nat} (ha : i < a.length) (hb : i < b.length) : lexS (a.drop i) (b.drop i) = if a.getD i 0 < b.getD i 0 then -1 else if a.getD i 0 > b.getD i 0 then 1 else lexS (a.drop (i + 1)) (b.drop (i + 1)) := by
  rw [List.drop_eq_getElem_cons ha, List.drop_eq_getElem_cons hb, lexS]
  simp [List.getD_eq_getElem?_getD, List.getElem?_eq_getElem ha, List.getElem?_eq_getElem hb]
end Go.Proofs.Ytidpmbbkpclccaa
