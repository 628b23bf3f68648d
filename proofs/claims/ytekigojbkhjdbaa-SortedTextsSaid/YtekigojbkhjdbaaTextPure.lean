/- The set of a row of texts, rising; how two rows of texts stand: pure. -/
import Derived.Test.YtekigojbkhjdbaaStrs
import Derived.Test.YtekigojbkhjdbaaOrPure
namespace Go.Proofs.Ytekigojbkhjdbaa
set_option linter.all false
open Go.RowKit

theorem tx_irr (a : Txt) : ¬ a < a := List.lt_irrefl a
theorem tx_tr (a b c : Txt) (h : a < b) (h2 : b < c) : a < c := List.lt_trans h h2
theorem tx_le (a b : Txt) : a ≤ b ↔ ¬ b < a := List.not_lt.symm
theorem tx_tri (a b : Txt) : a < b ∨ a = b ∨ b < a := by
  by_cases h : a < b
  · exact .inl h
  · by_cases h2 : b < a
    · exact .inr (.inr h2)
    · exact .inr (.inl (List.le_antisymm (List.not_lt.1 h2) (List.not_lt.1 h)))
theorem tx_asym {a b : Txt} (h : a < b) : ¬ b < a := List.lt_asymm h
theorem tx_let {a b c : Txt} (h : a ≤ b) (h2 : b < c) : a < c := by
  rcases tx_tri a b with h3 | rfl | h3
  · exact tx_tr _ _ _ h3 h2
  · exact h2
  · exact absurd h3 (List.not_lt.2 h)
theorem lin_txt : Lin (fun a b : Txt => a < b) := ⟨tx_irr, tx_tr⟩
def insT (x : Txt) : List Txt → List Txt
  | [] => [x]
  | y :: ys => if x < y then x :: y :: ys else if x = y then y :: ys else y :: insT x ys
/-- The set of a row, rising. -/
def ofT (l : List Txt) : List Txt := l.foldr insT []
theorem mem_insT {x y : Txt} : ∀ {l : List Txt}, y ∈ insT x l ↔ y = x ∨ y ∈ l
  | [] => by simp [insT]
  | z :: zs => by
    simp only [insT]
    split
    · simp
    · split
      · rename_i e; subst e; simp
      · simp only [List.mem_cons, mem_insT (l := zs)]
        constructor
        · rintro (h | h | h)
          · exact .inr (.inl h)
          · exact .inl h
          · exact .inr (.inr h)
        · rintro (h | h | h)
          · exact .inr (.inl h)
          · exact .inl h
          · exact .inr (.inr h)
theorem rise_insT {x : Txt} : ∀ {l : List Txt}, l.Pairwise (· < ·) → (insT x l).Pairwise (· < ·)
  | [], _ => by simp [insT]
  | z :: zs, h => by
    obtain ⟨h1, h2⟩ := List.pairwise_cons.1 h
    simp only [insT]
    split
    · rename_i hlt
      refine List.pairwise_cons.2 ⟨fun y hy => ?_, h⟩
      rcases List.mem_cons.1 hy with rfl | hy
      · exact hlt
      · exact tx_tr _ _ _ hlt (h1 y hy)
    · rename_i n1
      split
      · exact h
      · rename_i n2
        refine List.pairwise_cons.2 ⟨fun y hy => ?_, rise_insT h2⟩
        rcases mem_insT.1 hy with rfl | hy
        · rcases tx_tri z y with h' | h' | h'
          · exact h'
          · exact absurd h'.symm n2
          · exact absurd h' n1
        · exact h1 y hy
theorem len_insT (x : Txt) : ∀ l : List Txt, (insT x l).length ≤ l.length + 1
  | [] => by simp [insT]
  | z :: zs => by
    simp only [insT]
    split
    · simp
    · split
      · simp
      · have := len_insT x zs; simp; omega
theorem mem_ofT {y : Txt} {l : List Txt} : y ∈ ofT l ↔ y ∈ l := by
  induction l with
  | nil => simp [ofT]
  | cons x xs ih => simp only [ofT, List.foldr_cons] at ih ⊢; rw [mem_insT, ih, List.mem_cons]
theorem rise_ofT (l : List Txt) : (ofT l).Pairwise (· < ·) := by
  induction l with
  | nil => simp [ofT]
  | cons x xs ih => simp only [ofT, List.foldr_cons] at ih ⊢; exact rise_insT ih
theorem len_ofT (l : List Txt) : (ofT l).length ≤ l.length := by
  induction l with
  | nil => simp [ofT]
  | cons x xs ih => simp only [ofT, List.foldr_cons, List.length_cons] at ih ⊢; have := len_insT x (List.foldr insT [] xs); omega
theorem rise_extT {a b : List Txt} (ha : a.Pairwise (· < ·)) (hb : b.Pairwise (· < ·)) (h : ∀ x, x ∈ a ↔ x ∈ b) : a = b := rise_ext tx_irr tx_tr ha hb h
theorem ofT_of_rise {l : List Txt} (h : l.Pairwise (· < ·)) : ofT l = l := rise_extT (rise_ofT l) h (fun _ => mem_ofT)
theorem ofT_congr {a b : List Txt} (h : ∀ x, x ∈ a ↔ x ∈ b) : ofT a = ofT b := rise_extT (rise_ofT a) (rise_ofT b) (fun x => by rw [mem_ofT, mem_ofT, h])
theorem sortT_pair (l : List Txt) : (l.mergeSort fun x y => decide (x ≤ y)).Pairwise (· ≤ ·) := by
  have := List.pairwise_mergeSort (le := fun x y : Txt => decide (x ≤ y)) (fun a b c h1 h2 => by simp only [decide_eq_true_eq] at *; exact List.le_trans h1 h2) (fun a b => by simp only [Bool.or_eq_true, decide_eq_true_eq]; exact List.le_total ..) l
  exact this.imp (fun h => of_decide_eq_true h)
/-- Sorted and compacted: the set. -/
theorem compact_sortT (l : List Txt) : Lib.compact (l.mergeSort fun x y => decide (x ≤ y)) = ofT l :=
  rise_extT (compact_rise (sortT_pair l) (fun _ => (tx_le _ _).2 (tx_irr _)) (fun a b h1 h2 => by
      rcases tx_tri a b with h | h | h
      · exact h
      · exact absurd h h2
      · exact absurd h ((tx_le _ _).1 h1)) (fun a b c h1 h2 => tx_let h1 h2)) (rise_ofT l)
    (fun x => by rw [mem_compact, mem_ofT]; exact (List.mergeSort_perm l _).mem_iff)
/-- The least one of a row that is not in another one. -/
def MinT (l out : List Txt) (found : Bool) (best : Txt) : Prop :=
  (found = true → best ∈ l ∧ best ∉ out) ∧ ∀ x ∈ l, x ∉ out → found = true ∧ ¬ x < best
theorem MinT.nil (out : List Txt) (b : Txt) : MinT [] out false b := ⟨fun h => (by cases h), fun x h => (by cases h)⟩
theorem MinT.skip {l out : List Txt} {f : Bool} {b x : Txt} (h : MinT l out f b) (hx : x ∈ out ∨ (f = true ∧ ¬ x < b)) : MinT (l ++ [x]) out f b :=
  ⟨fun hf => ⟨List.mem_append_left _ (h.1 hf).1, (h.1 hf).2⟩, fun y hy hn => by
    rcases List.mem_append.1 hy with hy | hy
    · exact h.2 y hy hn
    · rw [List.mem_singleton.1 hy] at hn ⊢
      rcases hx with hx | hx
      · exact absurd hx hn
      · exact hx⟩
theorem MinT.take {l out : List Txt} {f : Bool} {b x : Txt} (h : MinT l out f b) (hx : x ∉ out) (hlt : f = true → x < b) : MinT (l ++ [x]) out true x :=
  ⟨fun _ => ⟨List.mem_append_right _ (List.mem_singleton.2 rfl), hx⟩, fun y hy hn => by
    refine ⟨rfl, ?_⟩
    rcases List.mem_append.1 hy with hy | hy
    · obtain ⟨h1, h2⟩ := h.2 y hy hn
      exact fun h3 => h2 (tx_tr _ _ _ h3 (hlt h1))
    · rw [List.mem_singleton.1 hy]; exact tx_irr _⟩
theorem riseT_take_drop {S : List Txt} (hS : S.Pairwise (· < ·)) {n : Nat} (hn : n < S.length) : (S.getD n [] ∈ S ∧ S.getD n [] ∉ S.take n) ∧ ∀ x ∈ S, x ∉ S.take n → ¬ x < S.getD n [] := by
  have hg : S.getD n [] = S[n] := by rw [List.getD_eq_getElem?_getD, List.getElem?_eq_getElem hn]; rfl
  have hp := List.pairwise_iff_getElem.1 hS
  refine ⟨⟨by rw [hg]; exact List.getElem_mem _, fun h => ?_⟩, fun x hx hno => ?_⟩
  · obtain ⟨i, hi, e⟩ := List.mem_iff_getElem.1 h
    rw [List.length_take] at hi
    rw [List.getElem_take, hg] at e
    have := hp i n (by omega) hn (by omega)
    rw [e] at this
    exact tx_irr _ this
  · obtain ⟨i, hi, e⟩ := List.mem_iff_getElem.1 hx
    by_cases h : i < n
    · exact absurd (List.mem_iff_getElem.2 ⟨i, by rw [List.length_take]; omega, by rw [List.getElem_take]; exact e⟩) hno
    · by_cases h2 : i = n
      · subst h2; rw [hg, e]; exact tx_irr _
      · have := hp n i hn hi (by omega)
        rw [hg, ← e]; exact tx_asym this
theorem MinT.done {l : List Txt} {n : Nat} {f : Bool} {b : Txt} (h : MinT l ((ofT l).take n) f b) : (f = true → n < (ofT l).length ∧ b = (ofT l).getD n []) ∧ (f = false → (ofT l).take n = ofT l) := by
  constructor
  · intro hf
    obtain ⟨h1, h2⟩ := h.1 hf
    have hn : n < (ofT l).length := by
      rcases Nat.lt_or_ge n (ofT l).length with h' | h'
      · exact h'
      · rw [List.take_of_length_le h'] at h2
        exact absurd (mem_ofT.2 h1) h2
    refine ⟨hn, ?_⟩
    obtain ⟨⟨g1, g2⟩, g3⟩ := riseT_take_drop (rise_ofT l) hn
    have a1 := (h.2 _ (mem_ofT.1 g1) g2).2
    have a2 := g3 b (mem_ofT.2 h1) h2
    rcases tx_tri b ((ofT l).getD n []) with h3 | h3 | h3
    · exact absurd h3 a2
    · exact h3
    · exact absurd h3 a1
  · intro hf
    rcases Nat.lt_or_ge n (ofT l).length with h' | h'
    · obtain ⟨⟨g1, g2⟩, _⟩ := riseT_take_drop (rise_ofT l) h'
      have := (h.2 _ (mem_ofT.1 g1) g2).1
      rw [hf] at this; cases this
    · exact List.take_of_length_le h'
/-! ### How two rows stand -/
def cmpT (x y : Txt) : Int := if x < y then -1 else if y < x then 1 else 0
def lexT : List Txt → List Txt → Int
  | x :: xs, y :: ys => if x < y then -1 else if y < x then 1 else lexT xs ys
  | _, _ => 0
def cmpL (a b : List Txt) : Int := if a.length < b.length then -1 else if a.length > b.length then 1 else lexT a b
theorem lexT_zero : ∀ a b : List Txt, a.length = b.length → (lexT a b = 0 ↔ a = b)
  | [], [], _ => by simp [lexT]
  | [], _ :: _, h => by simp at h
  | _ :: _, [], h => by simp at h
  | x :: xs, y :: ys, h => by
    rw [lexT]
    split
    · rename_i h1; constructor
      · intro h; omega
      · intro h; injection h with h; subst h; exact absurd h1 (tx_irr _)
    · split
      · rename_i h1; constructor
        · intro h; omega
        · intro h; injection h with h; subst h; exact absurd h1 (tx_irr _)
      · rename_i h1 h2
        rw [lexT_zero xs ys (by simpa using h)]
        have hxy : x = y := by
          rcases tx_tri x y with h3 | h3 | h3
          · exact absurd h3 h1
          · exact h3
          · exact absurd h3 h2
        constructor
        · intro e; rw [e, hxy]
        · intro e; injection e
theorem cmpL_zero (a b : List Txt) : cmpL a b = 0 ↔ a = b := by
  unfold cmpL
  split
  · constructor
    · intro h; omega
    · rintro rfl; omega
  · split
    · constructor
      · intro h; omega
      · rintro rfl; omega
    · exact lexT_zero a b (by omega)
theorem lexT_drop {xs ys : List Txt} {i : Nat} (h1 : i < xs.length) (h2 : i < ys.length) :
    lexT (xs.drop i) (ys.drop i) = if xs.getD i [] < ys.getD i [] then -1 else if ys.getD i [] < xs.getD i [] then 1 else lexT (xs.drop (i + 1)) (ys.drop (i + 1)) := by
  rw [List.drop_eq_getElem_cons h1, List.drop_eq_getElem_cons h2, lexT]
  simp [List.getD_eq_getElem?_getD, List.getElem?_eq_getElem h1, List.getElem?_eq_getElem h2]
end Go.Proofs.Ytekigojbkhjdbaa
