/- The set of a row of numbers, rising: pure. -/
import Derived.Test.YtidpmbbkpclccaaInts
namespace Go.Proofs.Ytidpmbbkpclccaa
set_option linter.all false
open Go.RowKit

/-- A number put into a rising row. -/
def insI (x : Int) : List Int → List Int
  | [] => [x]
  | y :: ys => if x < y then x :: y :: ys else if x = y then y :: ys else y :: insI x ys
/-- The set of a row, rising. -/
def ofI (l : List Int) : List Int := l.foldr insI []
theorem mem_insI {x y : Int} : ∀ {l : List Int}, y ∈ insI x l ↔ y = x ∨ y ∈ l
  | [] => by simp [insI]
  | z :: zs => by
    simp only [insI]
    split
    · simp
    · split
      · rename_i e; subst e; simp
      · simp only [List.mem_cons, mem_insI (l := zs)]
        constructor
        · rintro (h | h | h)
          · exact .inr (.inl h)
          · exact .inl h
          · exact .inr (.inr h)
        · rintro (h | h | h)
          · exact .inr (.inl h)
          · exact .inl h
          · exact .inr (.inr h)
theorem rise_insI {x : Int} : ∀ {l : List Int}, l.Pairwise (· < ·) → (insI x l).Pairwise (· < ·)
  | [], _ => by simp [insI]
  | z :: zs, h => by
    obtain ⟨h1, h2⟩ := List.pairwise_cons.1 h
    simp only [insI]
    split
    · rename_i hlt
      refine List.pairwise_cons.2 ⟨fun y hy => ?_, h⟩
      rcases List.mem_cons.1 hy with rfl | hy
      · exact hlt
      · exact Int.lt_trans hlt (h1 y hy)
    · split
      · exact h
      · refine List.pairwise_cons.2 ⟨fun y hy => ?_, rise_insI h2⟩
        rcases mem_insI.1 hy with rfl | hy
        · omega
        · exact h1 y hy
theorem len_insI (x : Int) : ∀ l : List Int, (insI x l).length ≤ l.length + 1
  | [] => by simp [insI]
  | z :: zs => by
    simp only [insI]
    split
    · simp
    · split
      · simp
      · have := len_insI x zs; simp; omega
theorem mem_ofI {y : Int} {l : List Int} : y ∈ ofI l ↔ y ∈ l := by
  induction l with
  | nil => simp [ofI]
  | cons x xs ih => simp only [ofI, List.foldr_cons] at ih ⊢; rw [mem_insI, ih, List.mem_cons]
theorem rise_ofI (l : List Int) : (ofI l).Pairwise (· < ·) := by
  induction l with
  | nil => simp [ofI]
  | cons x xs ih => simp only [ofI, List.foldr_cons] at ih ⊢; exact rise_insI ih
theorem len_ofI (l : List Int) : (ofI l).length ≤ l.length := by
  induction l with
  | nil => simp [ofI]
  | cons x xs ih => simp only [ofI, List.foldr_cons, List.length_cons] at ih ⊢; have := len_insI x (List.foldr insI [] xs); omega
/-- Rising rows with the same numbers are one. -/
theorem rise_ext {α : Type} {r : α → α → Prop} (hirr : ∀ a, ¬ r a a) (htr : ∀ a b c, r a b → r b c → r a c) : ∀ {a b : List α}, a.Pairwise r → b.Pairwise r → (∀ x, x ∈ a ↔ x ∈ b) → a = b
  | [], [], _, _, _ => rfl
  | [], y :: ys, _, _, h => by have := (h y).2 (List.mem_cons_self ..); cases this
  | x :: xs, [], _, _, h => by have := (h x).1 (List.mem_cons_self ..); cases this
  | x :: xs, y :: ys, ha, hb, h => by
    obtain ⟨a1, a2⟩ := List.pairwise_cons.1 ha
    obtain ⟨b1, b2⟩ := List.pairwise_cons.1 hb
    have e : x = y := by
      rcases List.mem_cons.1 ((h x).1 (List.mem_cons_self ..)) with e | hx
      · exact e
      · rcases List.mem_cons.1 ((h y).2 (List.mem_cons_self ..)) with e | hy
        · exact e.symm
        · exact absurd (htr _ _ _ (a1 y hy) (b1 x hx)) (hirr x)
    subst e
    congr 1
    refine rise_ext hirr htr a2 b2 (fun z => ⟨fun hz => ?_, fun hz => ?_⟩)
    · rcases List.mem_cons.1 ((h z).1 (List.mem_cons_of_mem _ hz)) with e | h'
      · exact absurd (e ▸ a1 z hz) (hirr x)
      · exact h'
    · rcases List.mem_cons.1 ((h z).2 (List.mem_cons_of_mem _ hz)) with e | h'
      · exact absurd (e ▸ b1 z hz) (hirr x)
      · exact h'
theorem rise_extI {a b : List Int} (ha : a.Pairwise (· < ·)) (hb : b.Pairwise (· < ·)) (h : ∀ x, x ∈ a ↔ x ∈ b) : a = b := rise_ext (fun a => Int.lt_irrefl a) (fun _ _ _ => Int.lt_trans) ha hb h
theorem rise_extN {a b : List Nat} (ha : a.Pairwise (· < ·)) (hb : b.Pairwise (· < ·)) (h : ∀ x, x ∈ a ↔ x ∈ b) : a = b := rise_ext (fun a => Nat.lt_irrefl a) (fun _ _ _ => Nat.lt_trans) ha hb h
theorem ofI_of_rise {l : List Int} (h : l.Pairwise (· < ·)) : ofI l = l := rise_extI (rise_ofI l) h (fun _ => mem_ofI)
theorem ofI_congr {a b : List Int} (h : ∀ x, x ∈ a ↔ x ∈ b) : ofI a = ofI b := rise_extI (rise_ofI a) (rise_ofI b) (fun x => by rw [mem_ofI, mem_ofI, h])

/-- The least one of a row that is not in another one. -/
def MinOf (l out : List Int) (found : Bool) (best : Int) : Prop :=
  (found = true → best ∈ l ∧ best ∉ out) ∧ ∀ x ∈ l, x ∉ out → found = true ∧ best ≤ x
theorem MinOf.nil (out : List Int) (b : Int) : MinOf [] out false b := ⟨fun h => (by cases h), fun x h => (by cases h)⟩
theorem MinOf.skip {l out : List Int} {f : Bool} {b x : Int} (h : MinOf l out f b) (hx : x ∈ out ∨ (f = true ∧ b ≤ x)) : MinOf (l ++ [x]) out f b :=
  ⟨fun hf => ⟨List.mem_append_left _ (h.1 hf).1, (h.1 hf).2⟩, fun y hy hn => by
    rcases List.mem_append.1 hy with hy | hy
    · exact h.2 y hy hn
    · rw [List.mem_singleton.1 hy] at hn ⊢
      rcases hx with hx | hx
      · exact absurd hx hn
      · exact hx⟩
theorem MinOf.take {l out : List Int} {f : Bool} {b x : Int} (h : MinOf l out f b) (hx : x ∉ out) (hlt : f = true → x < b) : MinOf (l ++ [x]) out true x :=
  ⟨fun _ => ⟨List.mem_append_right _ (List.mem_singleton.2 rfl), hx⟩, fun y hy hn => by
    refine ⟨rfl, ?_⟩
    rcases List.mem_append.1 hy with hy | hy
    · obtain ⟨h1, h2⟩ := h.2 y hy hn
      have := hlt h1
      omega
    · rw [List.mem_singleton.1 hy]; exact Int.le_refl _⟩
theorem rise_take_drop {S : List Int} (hS : S.Pairwise (· < ·)) {n : Nat} (hn : n < S.length) : (S.getD n 0 ∈ S ∧ S.getD n 0 ∉ S.take n) ∧ ∀ x ∈ S, x ∉ S.take n → S.getD n 0 ≤ x := by
  have hg : S.getD n 0 = S[n] := by rw [List.getD_eq_getElem?_getD, List.getElem?_eq_getElem hn]; rfl
  have hp := List.pairwise_iff_getElem.1 hS
  refine ⟨⟨by rw [hg]; exact List.getElem_mem _, fun h => ?_⟩, fun x hx hno => ?_⟩
  · obtain ⟨i, hi, e⟩ := List.mem_iff_getElem.1 h
    rw [List.length_take] at hi
    rw [List.getElem_take, hg] at e
    have := hp i n (by omega) hn (by omega)
    omega
  · obtain ⟨i, hi, e⟩ := List.mem_iff_getElem.1 hx
    by_cases h : i < n
    · exact absurd (List.mem_iff_getElem.2 ⟨i, by rw [List.length_take]; omega, by rw [List.getElem_take]; exact e⟩) hno
    · by_cases h2 : i = n
      · subst h2; rw [hg, e]; exact Int.le_refl _
      · have := hp n i hn hi (by omega)
        rw [hg, ← e]; omega
theorem MinOf.done {l : List Int} {n : Nat} {f : Bool} {b : Int} (h : MinOf l ((ofI l).take n) f b) : (f = true → n < (ofI l).length ∧ b = (ofI l).getD n 0) ∧ (f = false → (ofI l).take n = ofI l) := by
  constructor
  · intro hf
    obtain ⟨h1, h2⟩ := h.1 hf
    have hn : n < (ofI l).length := by
      rcases Nat.lt_or_ge n (ofI l).length with h' | h'
      · exact h'
      · rw [List.take_of_length_le h'] at h2
        exact absurd (mem_ofI.2 h1) h2
    refine ⟨hn, ?_⟩
    obtain ⟨⟨g1, g2⟩, g3⟩ := rise_take_drop (rise_ofI l) hn
    have a1 := (h.2 _ (mem_ofI.1 g1) g2).2
    have a2 := g3 b (mem_ofI.2 h1) h2
    omega
  · intro hf
    rcases Nat.lt_or_ge n (ofI l).length with h' | h'
    · obtain ⟨⟨g1, g2⟩, _⟩ := rise_take_drop (rise_ofI l) h'
      have := (h.2 _ (mem_ofI.1 g1) g2).1
      rw [hf] at this; cases this
    · exact List.take_of_length_le h'
end Go.Proofs.Ytidpmbbkpclccaa
