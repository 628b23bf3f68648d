/- Cycles: a row turned; the first labels of all, in order, by greed: pure. -/
import Derived.Test.YtidpmbbkpclccaaSetPure
namespace Go.Proofs.Ytidpmbbkpclccaa
set_option linter.all false
open Go.RowKit

/-! ### The first labels -/
section
variable {M : Type} (bt : M → Int → Bool) (fits : List Int → Bool)
/-- Labels, one of each mask. -/
def Lab : List M → List Int → Prop
  | [], [] => True
  | m :: ms, x :: xs => (x = 1 ∨ x = 2 ∨ x = 4) ∧ bt m x = true ∧ Lab ms xs
  | _, _ => False
/-- The first labels of all, in order, that begin so and fit: as the document tells it. -/
def afterC : List M → List Int → Option (List Int)
  | [], b => if fits b = true then some b else none
  | m :: ms, b => ((if bt m 1 = true then afterC ms (b ++ [1]) else none).or (if bt m 2 = true then afterC ms (b ++ [2]) else none)).or (if bt m 4 = true then afterC ms (b ++ [4]) else none)
variable {bt fits}
theorem afterC_some : ∀ {ms : List M} {b r : List Int}, afterC bt fits ms b = some r → ∃ l, r = b ++ l ∧ Lab bt ms l ∧ fits r = true
  | [], b, r, h => by
    rw [afterC] at h
    split at h
    · rename_i hf; cases h; exact ⟨[], by simp, trivial, hf⟩
    · cases h
  | m :: ms, b, r, h => by
    have step : ∀ x : Int, (x = 1 ∨ x = 2 ∨ x = 4) → (if bt m x = true then afterC bt fits ms (b ++ [x]) else none) = some r → ∃ l, r = b ++ l ∧ Lab bt (m :: ms) l ∧ fits r = true := by
      intro x hx h
      split at h
      · rename_i hb
        obtain ⟨l, h1, h2, h3⟩ := afterC_some h
        exact ⟨x :: l, by rw [h1]; simp, ⟨hx, hb, h2⟩, h3⟩
      · cases h
    rw [afterC, Option.or_eq_some_iff, Option.or_eq_some_iff] at h
    rcases h with (h | ⟨_, h⟩) | ⟨_, h⟩
    · exact step 1 (by simp) h
    · exact step 2 (by simp) h
    · exact step 4 (by simp) h
theorem afterC_none : ∀ {ms : List M} {b : List Int}, afterC bt fits ms b = none → ∀ l, Lab bt ms l → fits (b ++ l) = false
  | [], b, h, l, hl => by
    rw [afterC] at h
    cases l with
    | nil =>
      split at h
      · cases h
      · rename_i hf; simpa using hf
    | cons x xs => exact hl.elim
  | m :: ms, b, h, l, hl => by
    cases l with
    | nil => exact hl.elim
    | cons x xs =>
      obtain ⟨hx, hb, hl⟩ := hl
      rw [afterC, Option.or_eq_none_iff, Option.or_eq_none_iff] at h
      obtain ⟨⟨h1, h2⟩, h4⟩ := h
      have step : (if bt m x = true then afterC bt fits ms (b ++ [x]) else none) = none := by
        rcases hx with rfl | rfl | rfl
        · exact h1
        · exact h2
        · exact h4
      rw [if_pos hb] at step
      have := afterC_none step xs hl
      simpa using this
/-- The label that greed takes, by what can still be. -/
def takeC (bt : M → Int → Bool) (E : List Int → List M → Bool) (m : M) (ms : List M) (b : List Int) : Int :=
  if (bt m 1 && E (b ++ [1]) ms) = true then 1 else if (bt m 2 && E (b ++ [2]) ms) = true then 2 else if (bt m 4 && E (b ++ [4]) ms) = true then 4 else 1
def greedyC (bt : M → Int → Bool) (E : List Int → List M → Bool) : List M → List Int → List Int
  | [], b => b
  | m :: ms, b => greedyC bt E ms (b ++ [takeC bt E m ms b])
theorem after_greedy {E : List Int → List M → Bool} (hE : ∀ b ms, E b ms = true ↔ ∃ l, Lab bt ms l ∧ fits (b ++ l) = true) :
    ∀ {ms : List M} {b : List Int}, E b ms = true → afterC bt fits ms b = some (greedyC bt E ms b)
  | [], b, h => by
    obtain ⟨l, hl, hf⟩ := (hE b []).1 h
    cases l with
    | nil => rw [List.append_nil] at hf; rw [afterC, if_pos hf, greedyC]
    | cons x xs => exact hl.elim
  | m :: ms, b, h => by
    have no : ∀ x : Int, ¬ (bt m x && E (b ++ [x]) ms) = true → (if bt m x = true then afterC bt fits ms (b ++ [x]) else none) = none := by
      intro x hx
      by_cases hb : bt m x = true
      · rw [if_pos hb]
        cases ha : afterC bt fits ms (b ++ [x]) with
        | none => rfl
        | some r =>
          obtain ⟨l, h1, h2, h3⟩ := afterC_some ha
          exact absurd (by rw [hb, (hE (b ++ [x]) ms).2 ⟨l, h2, h1 ▸ h3⟩]; rfl) hx
      · rw [if_neg hb]
    have yes : ∀ x : Int, (bt m x && E (b ++ [x]) ms) = true → (if bt m x = true then afterC bt fits ms (b ++ [x]) else none) = some (greedyC bt E ms (b ++ [x])) := by
      intro x hx
      rw [Bool.and_eq_true] at hx
      rw [if_pos hx.1, after_greedy hE hx.2]
    rw [afterC, greedyC, takeC]
    by_cases h1 : (bt m 1 && E (b ++ [1]) ms) = true
    · rw [if_pos h1, yes 1 h1]; simp
    · rw [if_neg h1, no 1 h1]
      by_cases h2 : (bt m 2 && E (b ++ [2]) ms) = true
      · rw [if_pos h2, yes 2 h2]; simp
      · rw [if_neg h2, no 2 h2]
        by_cases h4 : (bt m 4 && E (b ++ [4]) ms) = true
        · rw [if_pos h4, yes 4 h4]; simp
        · exfalso
          obtain ⟨l, hl, hf⟩ := (hE b (m :: ms)).1 h
          cases l with
          | nil => exact hl.elim
          | cons x xs =>
            obtain ⟨hx, hb, hl⟩ := hl
            have hE2 : E (b ++ [x]) ms = true := (hE _ _).2 ⟨xs, hl, by simpa using hf⟩
            have : (bt m x && E (b ++ [x]) ms) = true := by rw [hb, hE2]; rfl
            rcases hx with rfl | rfl | rfl
            · exact h1 this
            · exact h2 this
            · exact h4 this
end
/-! ### How many labels can count -/
section
variable {M X : Type} (al : M → X → Prop) (isC : X → Bool)
/-- One of each. -/
def Ch : List M → List X → Prop
  | [], [] => True
  | m :: ms, x :: xs => al m x ∧ Ch ms xs
  | _, _ => False
variable {al isC}
theorem count_range {hC hO : M → Bool} (h1 : ∀ m, hC m = true ↔ ∃ x, al m x ∧ isC x = true) (h2 : ∀ m, hO m = true ↔ ∃ x, al m x ∧ isC x = false) :
    ∀ {ms : List M} {v : Nat}, (∃ l, Ch al ms l ∧ l.countP isC = v) ↔ (∀ m ∈ ms, hC m = true ∨ hO m = true) ∧ ms.countP (fun m => hC m && !hO m) ≤ v ∧ v ≤ ms.countP hC
  | [], v => by
    constructor
    · rintro ⟨l, hl, e⟩
      cases l with
      | nil => simp at e ⊢; omega
      | cons x xs => exact hl.elim
    · rintro ⟨_, _, h⟩
      exact ⟨[], trivial, by simp at h ⊢; omega⟩
  | m :: ms, v => by
    rw [List.countP_cons, List.countP_cons]
    constructor
    · rintro ⟨l, hl, e⟩
      cases l with
      | nil => exact hl.elim
      | cons x xs =>
        obtain ⟨ha, hl⟩ := hl
        rw [List.countP_cons] at e
        obtain ⟨i1, i2, i3⟩ := (count_range h1 h2).1 ⟨xs, hl, rfl⟩
        cases hx : isC x with
        | true =>
          have hc := (h1 m).2 ⟨x, ha, hx⟩
          rw [hx] at e
          simp only [if_true] at e
          refine ⟨fun m' hm => ?_, ?_, ?_⟩
          · rcases List.mem_cons.1 hm with rfl | hm
            · exact .inl hc
            · exact i1 m' hm
          · split <;> omega
          · rw [hc]; simp only [if_true]; omega
        | false =>
          have ho := (h2 m).2 ⟨x, ha, hx⟩
          rw [hx] at e
          simp at e
          refine ⟨fun m' hm => ?_, ?_, ?_⟩
          · rcases List.mem_cons.1 hm with rfl | hm
            · exact .inr ho
            · exact i1 m' hm
          · rw [ho]; simp; omega
          · split <;> omega
    · rintro ⟨i1, i2, i3⟩
      have j1 : ∀ m' ∈ ms, hC m' = true ∨ hO m' = true := fun m' hm => i1 m' (List.mem_cons_of_mem _ hm)
      have hm := i1 m (List.mem_cons_self ..)
      by_cases hc : hC m = true
      · obtain ⟨x, ha, hx⟩ := (h1 m).1 hc
        by_cases ho : hO m = true
        · obtain ⟨y, hb, hy⟩ := (h2 m).1 ho
          simp [hc, ho] at i2 i3
          by_cases hv : v ≤ ms.countP hC
          · obtain ⟨l, hl, e⟩ := (count_range h1 h2 (v := v)).2 ⟨j1, i2, hv⟩
            exact ⟨y :: l, ⟨hb, hl⟩, by rw [List.countP_cons, hy, e]; simp⟩
          · have hle : ms.countP (fun m => hC m && !hO m) ≤ ms.countP hC := List.countP_mono_left (fun m _ h => by simp at h; exact h.1)
            obtain ⟨l, hl, e⟩ := (count_range h1 h2 (v := v - 1)).2 ⟨j1, by omega, by omega⟩
            exact ⟨x :: l, ⟨ha, hl⟩, by rw [List.countP_cons, hx, e]; simp; omega⟩
        · simp [hc, ho] at i2 i3
          obtain ⟨l, hl, e⟩ := (count_range h1 h2 (v := v - 1)).2 ⟨j1, by omega, by omega⟩
          exact ⟨x :: l, ⟨ha, hl⟩, by rw [List.countP_cons, hx, e]; simp; omega⟩
      · have ho := hm.resolve_left hc
        obtain ⟨y, hb, hy⟩ := (h2 m).1 ho
        simp [hc] at i2 i3
        obtain ⟨l, hl, e⟩ := (count_range h1 h2 (v := v)).2 ⟨j1, i2, i3⟩
        exact ⟨y :: l, ⟨hb, hl⟩, by rw [List.countP_cons, hy, e]; simp⟩
end
/-! ### A row turned -/
/-- The row that begins at an index. -/
def rotC (c : List Int) (k : Nat) : List Int := c.drop k ++ c.take k
theorem rotC_get {c : List Int} {b k : Nat} (hb : b < c.length) (hk : k < c.length) : (rotC c b)[k]? = some (c.getD ((b + k) % c.length) 0) := by
  unfold rotC
  rw [List.getElem?_append]
  by_cases h : k < c.length - b
  · rw [if_pos (by rw [List.length_drop]; exact h), List.getElem?_drop, Nat.mod_eq_of_lt (by omega), List.getD_eq_getElem?_getD, List.getElem?_eq_getElem (by omega)]; rfl
  · rw [if_neg (by rw [List.length_drop]; exact h), List.length_drop, List.getElem?_take_of_lt (by omega)]
    have e : (b + k) % c.length = k - (c.length - b) := by
      rw [Nat.mod_eq_sub_mod (by omega), Nat.mod_eq_of_lt (by omega)]; omega
    rw [e, List.getD_eq_getElem?_getD, List.getElem?_eq_getElem (by omega)]; rfl
theorem rotC_len (c : List Int) {b : Nat} (hb : b ≤ c.length) : (rotC c b).length = c.length := by
  unfold rotC; rw [List.length_append, List.length_drop, List.length_take]; omega
/-- The first index of a least number among the first n. -/
def FirstMin (c : List Int) (n b : Nat) : Prop := b < n ∧ (∀ j, j < n → c.getD b 0 ≤ c.getD j 0) ∧ ∀ j, j < b → c.getD b 0 < c.getD j 0
theorem FirstMin.one (c : List Int) : FirstMin c 1 0 := by
  refine ⟨by omega, fun j hj => ?_, fun j hj => by omega⟩
  have : j = 0 := by omega
  subst this
  exact Int.le_refl _
theorem FirstMin.step {c : List Int} {n b : Nat} (h : FirstMin c n b) : FirstMin c (n + 1) (if c.getD n 0 < c.getD b 0 then n else b) := by
  obtain ⟨h1, h2, h3⟩ := h
  split
  · rename_i hlt
    refine ⟨by omega, fun j hj => ?_, fun j hj => ?_⟩
    · by_cases e : j = n
      · subst e; exact Int.le_refl _
      · have := h2 j (by omega); omega
    · have := h2 j (by omega); omega
  · rename_i hge
    refine ⟨by omega, fun j hj => ?_, h3⟩
    by_cases e : j = n
    · subst e; omega
    · exact h2 j (by omega)
theorem FirstMin.uniq {c : List Int} {n b b' : Nat} (h : FirstMin c n b) (h' : FirstMin c n b') : b = b' := by
  obtain ⟨h1, h2, h3⟩ := h
  obtain ⟨g1, g2, g3⟩ := h'
  rcases Nat.lt_trichotomy b b' with hlt | e | hlt
  · have := g3 b hlt; have := h2 b' g1; omega
  · exact e
  · have := h3 b' hlt; have := g2 b h1; omega
/-- Turned twice: at the place that it comes to. -/
theorem rotC_rotC {c : List Int} {k b : Nat} (hk : k < c.length) (hb : b < c.length) : rotC (rotC c k) b = rotC c ((k + b) % c.length) := by
  have hlk := rotC_len c (Nat.le_of_lt hk)
  have hm : (k + b) % c.length < c.length := Nat.mod_lt _ (by omega)
  apply List.ext_getElem?
  intro i
  by_cases hi : i < c.length
  · rw [rotC_get (by omega) (by omega), rotC_get hm hi, hlk]
    have hm2 : (b + i) % c.length < c.length := Nat.mod_lt _ (by omega)
    rw [List.getD_eq_getElem?_getD, rotC_get hk hm2]
    simp only [Option.getD_some]
    congr 2
    rw [Nat.add_mod k, Nat.mod_mod, ← Nat.add_mod, Nat.add_mod ((k + b) % c.length), Nat.mod_mod, ← Nat.add_mod, Nat.add_assoc]
  · rw [List.getElem?_eq_none (by rw [rotC_len _ (by omega)]; omega), List.getElem?_eq_none (by rw [rotC_len _ (by omega)]; omega)]
theorem rotC_mem {c : List Int} {k : Nat} {x : Int} : x ∈ rotC c k ↔ x ∈ c := by
  unfold rotC
  rw [List.mem_append, Or.comm, ← List.mem_append, List.take_append_drop]
theorem rotC_zero (c : List Int) : rotC c 0 = c := by simp [rotC]
/-- A row without repeats: it has as many numbers as its set. -/
theorem simple_rot {c : List Int} {k : Nat} (hk : k ≤ c.length) : ((ofI (rotC c k)).length = (rotC c k).length) ↔ ((ofI c).length = c.length) := by
  rw [rotC_len c hk, ofI_congr (fun x => rotC_mem)]
theorem rotC_snoc {c : List Int} {b k : Nat} (hb : b < c.length) (hk : k < c.length) : (rotC c b).take (k + 1) = (rotC c b).take k ++ [c.getD ((b + k) % c.length) 0] := by
  rw [List.take_add_one, rotC_get hb hk]; rfl
theorem insI_has {x : Int} : ∀ {l : List Int}, l.Pairwise (· < ·) → x ∈ l → (insI x l).length = l.length
  | [], _, h => by cases h
  | y :: ys, hp, h => by
    obtain ⟨h1, h2⟩ := List.pairwise_cons.1 hp
    simp only [insI]
    split
    · rename_i hlt
      rcases List.mem_cons.1 h with rfl | h
      · exact absurd hlt (Int.lt_irrefl _)
      · have := h1 x h; omega
    · split
      · rfl
      · rename_i hne
        have hx := (List.mem_cons.1 h).resolve_left hne
        simp [insI_has h2 hx]
/-- As many numbers as its set: none stands twice. -/
theorem nodup_of_len : ∀ {c : List Int}, (ofI c).length = c.length → c.Nodup
  | [], _ => List.nodup_nil
  | x :: xs, h => by
    have e : ofI (x :: xs) = insI x (ofI xs) := rfl
    rw [e, List.length_cons] at h
    have h1 := len_insI x (ofI xs)
    have h2 := len_ofI xs
    refine List.nodup_cons.2 ⟨fun hx => ?_, nodup_of_len (by omega)⟩
    have := insI_has (rise_ofI xs) (mem_ofI.2 hx)
    omega
/-- A row without repeats, begun at another place, is alike when it is turned. -/
theorem turn_same {c : List Int} {k b b' : Nat} (hn : c.Nodup) (hk : k < c.length) (hb : FirstMin c c.length b) (hb' : FirstMin (rotC c k) c.length b') : rotC (rotC c k) b' = rotC c b := by
  rw [rotC_rotC hk hb'.1]
  have hm : (k + b') % c.length < c.length := Nat.mod_lt _ (by omega)
  have e1 : (rotC c k).getD b' 0 = c.getD ((k + b') % c.length) 0 := by rw [List.getD_eq_getElem?_getD, rotC_get hk hb'.1]; rfl
  congr 1
  have hle : c.getD b 0 ≤ c.getD ((k + b') % c.length) 0 := hb.2.1 _ hm
  have hge : c.getD ((k + b') % c.length) 0 ≤ c.getD b 0 := by
    rw [← e1]
    have hmem : c.getD b 0 ∈ rotC c k := rotC_mem.2 (by rw [List.getD_eq_getElem?_getD, List.getElem?_eq_getElem hb.1]; exact List.getElem_mem _)
    obtain ⟨j, hj, ej⟩ := List.mem_iff_getElem.1 hmem
    have := hb'.2.1 j (by rw [rotC_len c (Nat.le_of_lt hk)] at hj; exact hj)
    rwa [List.getD_eq_getElem?_getD (i := j), List.getElem?_eq_getElem hj, Option.getD_some, ej] at this
  have hb1 : b < c.length := hb.1
  have hg : ∀ i (hi : i < c.length), c.getD i 0 = c[i] := fun i hi => by rw [List.getD_eq_getElem?_getD, List.getElem?_eq_getElem hi]; rfl
  rw [hg _ hm, hg _ hb1] at hle hge
  generalize (k + b') % c.length = m at hm hle hge
  have hp := List.pairwise_iff_getElem.1 hn
  rcases Nat.lt_trichotomy m b with h | h | h
  · exact absurd (Int.le_antisymm hge hle) (hp m b hm hb1 h)
  · exact h
  · exact absurd (Int.le_antisymm hle hge) (hp b m hb1 hm h)
/-- Turned again it stays. -/
theorem turn_again {c : List Int} {b b' : Nat} (hb : FirstMin c c.length b) (hb' : FirstMin (rotC c b) c.length b') : rotC (rotC c b) b' = rotC c b := by
  have hz : b' = 0 := by
    have h0 : (rotC c b).getD 0 0 = c.getD b 0 := by
      rw [List.getD_eq_getElem?_getD, rotC_get hb.1 (by have := hb.1; omega), Nat.add_zero, Nat.mod_eq_of_lt hb.1]; rfl
    refine hb'.uniq ⟨by have := hb.1; omega, fun j hj => ?_, fun j hj => by omega⟩
    rw [h0, List.getD_eq_getElem?_getD (i := j), rotC_get hb.1 hj]
    exact hb.2.1 _ (Nat.mod_lt _ (by omega))
  rw [hz, rotC_zero]
/-- The first index of a least number among the first n: as the document's loop finds it. -/
def minIdx (c : List Int) : Nat → Nat
  | 0 => 0
  | n + 1 => if c.getD n 0 < c.getD (minIdx c n) 0 then n else minIdx c n
theorem minIdx_first (c : List Int) : ∀ n, 0 < n → FirstMin c n (minIdx c n)
  | 0, h => by omega
  | 1, _ => by
    have e : minIdx c 1 = 0 := by simp [minIdx]
    rw [e]; exact FirstMin.one c
  | n + 2, _ => (minIdx_first c (n + 1) (by omega)).step
theorem minIdx_le (c : List Int) : ∀ n, minIdx c n ≤ n
  | 0 => Nat.le_refl _
  | n + 1 => by
    have := minIdx_le c n
    rw [minIdx]; split <;> omega
/-- A cycle turned. -/
def turnC (c : List Int) : List Int := rotC c (minIdx c c.length)
theorem turnC_nil : turnC [] = [] := rfl
theorem turnC_len (c : List Int) : (turnC c).length = c.length := rotC_len c (minIdx_le c _)
theorem turnC_of {c : List Int} {b : Nat} (h : FirstMin c c.length b) : turnC c = rotC c b := by
  rw [turnC, (minIdx_first c c.length (by have := h.1; omega)).uniq h]
theorem turnC_rot {c : List Int} {k : Nat} (hn : c.Nodup) (hk : k < c.length) : turnC (rotC c k) = turnC c := by
  have hl := rotC_len c (Nat.le_of_lt hk)
  have h1 := minIdx_first (rotC c k) c.length (by omega)
  have h2 := minIdx_first c c.length (by omega)
  rw [turnC_of (by rw [hl]; exact h1), turnC_of h2]
  exact turn_same hn hk h2 h1
theorem turnC_turnL (c : List Int) : turnC (turnC c) = turnC c := by
  by_cases h : c = []
  · subst h; rfl
  · have hp : 0 < c.length := List.length_pos_iff.2 h
    have h2 := minIdx_first c c.length hp
    have hl := rotC_len c (minIdx_le c c.length)
    have h1 := minIdx_first (rotC c (minIdx c c.length)) c.length hp
    show turnC (rotC c (minIdx c c.length)) = rotC c (minIdx c c.length)
    rw [turnC_of (by rw [hl]; exact h1)]
    exact turn_again h2 h1
theorem turnC_snoc {c : List Int} {k : Nat} (hk : k < c.length) : (turnC c).take (k + 1) = (turnC c).take k ++ [c.getD ((minIdx c c.length + k) % c.length) 0] :=
  rotC_snoc (minIdx_first c c.length (by omega)).1 hk
end Go.Proofs.Ytidpmbbkpclccaa
