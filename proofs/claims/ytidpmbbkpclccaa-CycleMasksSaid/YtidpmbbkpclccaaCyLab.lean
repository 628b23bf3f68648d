/- What the program chooses by counts is what the document finds by trying: pure. -/
import Derived.Test.YtidpmbbkpclccaaLabs
import Derived.Test.YtidpmbbkpclccaaAfter
namespace Go.Proofs.Ytidpmbbkpclccaa
set_option linter.all false
open Go Go.RowKit
set_option maxRecDepth 100000

def cntN (n : Need) (l : List Int) : Nat := l.countP (fun x => x == (n.counts : Int))
def OkX (n : Need) (x : Int) : Prop := (x = 1 ∨ x = 2 ∨ x = 4) ∧ btM (n.may : Int) x = true
theorem need_lt {n : Need} (h : NeedOk n) : n.may < 8 ∧ n.counts < 8 ∧ n.least ≤ 1 ∧ (n.one = true → n.least = 1) := by
  rcases h with rfl | rfl | rfl | rfl <;> decide
theorem may_eq {n : Need} (h : NeedOk n) (m : Int) : (bits .and .i64 m (n.may : Int) != 0) = (hCN n m || hON n m) := by
  rw [and_low m (need_lt h).1, hCN, hON]
  have hw := low3_lt m
  generalize low3 m = w at hw
  revert hw w
  rcases h with rfl | rfl | rfl | rfl <;> decide
theorem counts_eq {n : Need} (h : NeedOk n) (m : Int) : (bits .and .i64 m (n.counts : Int) != 0) = hCN n m := by
  rw [and_low m (need_lt h).2.1, hCN]
  have hw := low3_lt m
  generalize low3 m = w at hw
  revert hw w
  rcases h with rfl | rfl | rfl | rfl <;> decide
theorem least_eq {n : Need} (h : NeedOk n) (m : Int) (hm : (hCN n m || hON n m) = true) : (bits .and .i64 m (n.may : Int) == bits .and .i64 m (n.counts : Int)) = (hCN n m && !hON n m) := by
  rw [and_low m (need_lt h).1, and_low m (need_lt h).2.1]
  rw [hCN, hON] at *
  have hw := low3_lt m
  generalize low3 m = w at hw hm
  revert hm hw w
  rcases h with rfl | rfl | rfl | rfl <;> decide
theorem canN_iff {n : Need} (hn : NeedOk n) {had : Nat} {ms : List Int} (hsm : had + ms.length ≤ 1000000) :
    canN n had ms = true ↔ ∃ l, Ch (alN n) ms l ∧ n.least ≤ had + cntN n l ∧ (n.one = true → had + cntN n l ≤ 1) := by
  have hA : allC n.may ms = true ↔ ∀ m ∈ ms, hCN n m = true ∨ hON n m = true := by
    unfold allC
    rw [List.all_eq_true]
    refine forall_congr' fun m => ?_
    rw [may_eq hn, Bool.or_eq_true]
  have hM : mostC n.counts ms = ms.countP (hCN n) := by
    unfold mostC
    congr 1
    funext m
    exact counts_eq hn m
  have hL : (∀ m ∈ ms, hCN n m = true ∨ hON n m = true) → leastC n.may n.counts ms = ms.countP (fun m => hCN n m && !hON n m) := by
    intro h
    unfold leastC
    refine List.countP_congr fun m hm => ?_
    rw [least_eq hn m (by rw [Bool.or_eq_true]; exact h m hm)]
  have hle : ms.countP (hCN n) ≤ ms.length := List.countP_le_length
  have hle2 : ms.countP (fun m => hCN n m && !hON n m) ≤ ms.countP (hCN n) := List.countP_mono_left (fun m _ h => by simp at h; exact h.1)
  unfold canN canI
  rw [Bool.and_eq_true, Bool.and_eq_true, decide_eq_true_eq, decide_eq_true_eq, hA, hM]
  obtain ⟨_, _, hl1, hone⟩ := need_lt hn
  constructor
  · rintro ⟨h1, h2, h3⟩
    rw [hL h1] at h2
    have hv : ∃ v, ms.countP (fun m => hCN n m && !hON n m) ≤ v ∧ v ≤ ms.countP (hCN n) ∧ n.least ≤ had + v ∧ (n.one = true → had + v ≤ 1) := by
      by_cases ho : n.one = true
      · have h2' : had + ms.countP (fun m => hCN n m && !hON n m) ≤ 1 := by
          have e : mostN n = 1 := by unfold mostN; rw [if_pos ho]
          rw [e] at h2; omega
        have := hone ho
        refine ⟨max (ms.countP (fun m => hCN n m && !hON n m)) (n.least - had), by omega, by omega, by omega, fun _ => by omega⟩
      · exact ⟨ms.countP (hCN n), hle2, Nat.le_refl _, by omega, fun h => absurd h ho⟩
    obtain ⟨v, v1, v2, v3, v4⟩ := hv
    obtain ⟨l, hl, e⟩ := (count_range (hCN_iff hn) (hON_iff hn) (v := v)).2 ⟨h1, v1, v2⟩
    exact ⟨l, hl, by unfold cntN; rw [e]; exact v3, fun h => by unfold cntN; rw [e]; exact v4 h⟩
  · rintro ⟨l, hl, h3, h4⟩
    obtain ⟨i1, i2, i3⟩ := (count_range (hCN_iff hn) (hON_iff hn) (v := cntN n l)).1 ⟨l, hl, rfl⟩
    refine ⟨i1, ?_, by omega⟩
    rw [hL i1]
    by_cases ho : n.one = true
    · have := h4 ho
      have e : mostN n = 1 := by unfold mostN; rw [if_pos ho]
      rw [e]; omega
    · have e : mostN n = manyI := by unfold mostN; rw [if_neg ho]
      rw [e]; unfold manyI; omega
/-! ### the document's fit, by the need -/
theorem lab_count (l : List Int) : (l.countP (· == 1) + l.countP (· == 2) + l.countP (· == 4) = l.length) ↔ ∀ x ∈ l, x = 1 ∨ x = 2 ∨ x = 4 := by
  have hle : ∀ l : List Int, l.countP (· == 1) + l.countP (· == 2) + l.countP (· == 4) ≤ l.length := by
    intro l
    induction l with
    | nil => simp
    | cons x xs ih =>
      rw [List.countP_cons, List.countP_cons, List.countP_cons, List.length_cons]
      by_cases h1 : x = 1
      · subst h1; simp; omega
      · by_cases h2 : x = 2
        · subst h2; simp; omega
        · by_cases h4 : x = 4
          · subst h4; simp; omega
          · simp [h1, h2, h4]; omega
  induction l with
  | nil => simp
  | cons x xs ih =>
    have := hle xs
    rw [List.countP_cons, List.countP_cons, List.countP_cons, List.length_cons, List.forall_mem_cons]
    refine Iff.trans ?_ (and_congr Iff.rfl ih)
    by_cases h1 : x = 1
    · subst h1; simp; omega
    · by_cases h2 : x = 2
      · subst h2; simp; omega
      · by_cases h4 : x = 4
        · subst h4; simp; omega
        · simp [h1, h2, h4]; omega
theorem count_zero {l : List Int} {y : Int} : l.countP (· == y) = 0 ↔ ∀ x ∈ l, x ≠ y := by
  rw [List.countP_eq_zero]; simp
theorem fits_none {kind : Int} (h : needK kind = none) (l : List Int) : fitsD kind l = false := by
  unfold needK at h
  unfold fitsD fitsV
  split at h
  · cases h
  · rename_i h6
    split at h
    · cases h
    · rename_i h9
      split at h
      · cases h
      · rename_i h10
        split at h
        · cases h
        · rename_i h11
          rw [if_neg h6, if_neg h9, if_neg h10, if_neg h11, Bool.and_false]
theorem fits_some {kind : Int} {n : Need} (h : needK kind = some n) (l : List Int) :
    fitsD kind l = true ↔ 2 ≤ l.length ∧ (∀ x ∈ l, OkX n x) ∧ n.least ≤ cntN n l ∧ (n.one = true → cntN n l ≤ 1) := by
  unfold fitsD fitsV
  rw [Bool.and_eq_true, Bool.and_eq_true, decide_eq_true_eq, decide_eq_true_eq, lab_count]
  unfold needK at h
  unfold OkX cntN
  split at h
  · rename_i h6
    cases h
    rw [if_pos h6, decide_eq_true_eq]
    constructor
    · rintro ⟨⟨h1, h2⟩, h3⟩
      have c2 := count_zero.1 (show l.countP (· == 2) = 0 by omega)
      have c4 := count_zero.1 (show l.countP (· == 4) = 0 by omega)
      refine ⟨h1, fun x hx => ⟨h2 x hx, ?_⟩, by simp, by simp⟩
      rcases h2 x hx with rfl | rfl | rfl
      · decide
      · exact absurd rfl (c2 _ hx)
      · exact absurd rfl (c4 _ hx)
    · rintro ⟨h1, h2, _⟩
      refine ⟨⟨h1, fun x hx => (h2 x hx).1⟩, ?_⟩
      have c2 : l.countP (· == 2) = 0 := count_zero.2 (fun x hx e => by have := (h2 x hx).2; rw [e] at this; exact absurd this (by decide))
      have c4 : l.countP (· == 4) = 0 := count_zero.2 (fun x hx e => by have := (h2 x hx).2; rw [e] at this; exact absurd this (by decide))
      omega
  · rename_i h6
    rw [if_neg h6]
    split at h
    · rename_i h9
      cases h
      rw [if_pos h9, Bool.and_eq_true, decide_eq_true_eq, decide_eq_true_eq]
      constructor
      · rintro ⟨⟨h1, h2⟩, h3, h4⟩
        have c4 := count_zero.1 h3
        refine ⟨h1, fun x hx => ⟨h2 x hx, ?_⟩, h4, by simp⟩
        rcases h2 x hx with rfl | rfl | rfl
        · decide
        · decide
        · exact absurd rfl (c4 _ hx)
      · rintro ⟨h1, h2, h3, _⟩
        exact ⟨⟨h1, fun x hx => (h2 x hx).1⟩, count_zero.2 (fun x hx e => by have := (h2 x hx).2; rw [e] at this; exact absurd this (by decide)), h3⟩
    · rename_i h9
      rw [if_neg h9]
      split at h
      · rename_i h10
        cases h
        rw [if_pos h10, decide_eq_true_eq]
        constructor
        · rintro ⟨⟨h1, h2⟩, h3⟩
          refine ⟨h1, fun x hx => ⟨h2 x hx, ?_⟩, Nat.le_of_eq h3.symm, fun _ => Nat.le_of_eq h3⟩
          rcases h2 x hx with rfl | rfl | rfl <;> decide
        · rintro ⟨h1, h2, h3, h4⟩
          exact ⟨⟨h1, fun x hx => (h2 x hx).1⟩, Nat.le_antisymm (h4 rfl) h3⟩
      · rename_i h10
        rw [if_neg h10]
        split at h
        · rename_i h11
          cases h
          rw [if_pos h11, decide_eq_true_eq]
          constructor
          · rintro ⟨⟨h1, h2⟩, h3⟩
            refine ⟨h1, fun x hx => ⟨h2 x hx, ?_⟩, h3, by simp⟩
            rcases h2 x hx with rfl | rfl | rfl <;> decide
          · rintro ⟨h1, h2, h3, _⟩
            exact ⟨⟨h1, fun x hx => (h2 x hx).1⟩, h3⟩
        · cases h
/-! ### what can still be -/
theorem ch_lab {n : Need} : ∀ {ms l : List Int}, Ch (alN n) ms l ↔ Lab btM ms l ∧ ∀ x ∈ l, OkX n x
  | [], [] => by simp [Ch, Lab]
  | [], x :: xs => by simp [Ch, Lab]
  | m :: ms, [] => by simp [Ch, Lab]
  | m :: ms, x :: xs => by
    simp only [Ch, Lab, ch_lab (ms := ms) (l := xs), List.forall_mem_cons]
    unfold alN OkX
    constructor
    · rintro ⟨⟨h1, h2, h3⟩, h4, h5⟩; exact ⟨⟨h1, h2, h4⟩, ⟨h1, h3⟩, h5⟩
    · rintro ⟨⟨h1, h2, h4⟩, ⟨_, h3⟩, h5⟩; exact ⟨⟨h1, h2, h3⟩, h4, h5⟩
theorem lab_len {ms l : List Int} (h : Lab btM ms l) : l.length = ms.length := by
  induction ms generalizing l with
  | nil => cases l with
    | nil => rfl
    | cons x xs => exact h.elim
  | cons m ms ih => cases l with
    | nil => exact h.elim
    | cons x xs => simp [ih h.2.2]
theorem cnt_app (n : Need) (a b : List Int) : cntN n (a ++ b) = cntN n a + cntN n b := List.countP_append
theorem can_key {kind : Int} {n : Need} (h : needK kind = some n) {b ms : List Int} (hb : ∀ x ∈ b, OkX n x) (h2 : 2 ≤ b.length + ms.length) (hsm : b.length + ms.length ≤ 1000000) :
    (∃ l, Lab btM ms l ∧ fitsD kind (b ++ l) = true) ↔ canN n (cntN n b) ms = true := by
  have hc : cntN n b ≤ b.length := List.countP_le_length
  rw [canN_iff (needK_ok h) (by omega)]
  constructor
  · rintro ⟨l, hl, hf⟩
    obtain ⟨_, f2, f3, f4⟩ := (fits_some h _).1 hf
    rw [cnt_app] at f3 f4
    exact ⟨l, ch_lab.2 ⟨hl, fun x hx => f2 x (List.mem_append_right _ hx)⟩, f3, f4⟩
  · rintro ⟨l, hl, h3, h4⟩
    obtain ⟨hl1, hl2⟩ := ch_lab.1 hl
    refine ⟨l, hl1, (fits_some h _).2 ⟨by rw [List.length_append, lab_len hl1]; exact h2, fun x hx => ?_, by rw [cnt_app]; exact h3, by rw [cnt_app]; exact h4⟩⟩
    rcases List.mem_append.1 hx with hx | hx
    · exact hb x hx
    · exact hl2 x hx
/-! ### the label that is chosen -/
theorem low3_nat {w : Nat} (h : w < 8) : low3 (w : Int) = w := by
  revert h w; decide
theorem bit_self {x y : Int} (hx : x = 1 ∨ x = 2 ∨ x = 4) (hy : y = 1 ∨ y = 2 ∨ y = 4) : btM x y = true ↔ y = x := by
  rcases hx with rfl | rfl | rfl <;> rcases hy with rfl | rfl | rfl <;> decide
theorem bit_two {n : Need} (hn : NeedOk n) (m : Int) {x : Int} (hx : x = 1 ∨ x = 2 ∨ x = 4) :
    (bits .and .i64 (bits .and .i64 m (n.may : Int)) x != 0) = (btM m x && btM (n.may : Int) x) := by
  rw [and_low m (need_lt hn).1]
  have h1 := btM_low m (c := 1) (by decide)
  have h2 := btM_low m (c := 2) (by decide)
  have h4 := btM_low m (c := 4) (by decide)
  have hl := low3_lt m
  have hw : low3 m &&& n.may < 8 := Nat.lt_of_le_of_lt Nat.and_le_left hl
  have e : ∀ c : Nat, c < 8 → bits .and .i64 ((low3 m &&& n.may : Nat) : Int) (c : Int) = ((low3 m &&& n.may &&& c : Nat) : Int) := fun c hc => by rw [and_low _ hc, low3_nat hw]
  have e1 := e 1 (by decide)
  have e2 := e 2 (by decide)
  have e4 := e 4 (by decide)
  generalize low3 m = w at *
  rcases hx with rfl | rfl | rfl
  · rw [show (1 : Int) = ((1 : Nat) : Int) from rfl, e1, h1]
    clear e e1 e2 e4 h1 h2 h4 hw
    revert hl w
    rcases hn with rfl | rfl | rfl | rfl <;> decide
  · rw [show (2 : Int) = ((2 : Nat) : Int) from rfl, e2, h2]
    clear e e1 e2 e4 h1 h2 h4 hw
    revert hl w
    rcases hn with rfl | rfl | rfl | rfl <;> decide
  · rw [show (4 : Int) = ((4 : Nat) : Int) from rfl, e4, h4]
    clear e e1 e2 e4 h1 h2 h4 hw
    revert hl w
    rcases hn with rfl | rfl | rfl | rfl <;> decide
theorem can_cons {n : Need} (hn : NeedOk n) {had : Nat} {x : Int} {ms : List Int} (hx : OkX n x) (hsm : had + 1 + ms.length ≤ 1000000) :
    canN n had (x :: ms) = canN n (had + cntN n [x]) ms := by
  have hc : cntN n [x] ≤ 1 := List.countP_le_length
  rw [Bool.eq_iff_iff, canN_iff hn (by simp; omega), canN_iff hn (by omega)]
  constructor
  · rintro ⟨l, hl, h3, h4⟩
    cases l with
    | nil => exact hl.elim
    | cons y ys =>
      obtain ⟨⟨h1, h2, _⟩, hl⟩ := hl
      have := (bit_self hx.1 h1).1 h2
      subst this
      rw [show y :: ys = [y] ++ ys from rfl, cnt_app] at h3 h4
      exact ⟨ys, hl, by omega, fun h => by have := h4 h; omega⟩
  · rintro ⟨l, hl, h3, h4⟩
    refine ⟨x :: l, ⟨⟨hx.1, (bit_self hx.1 hx.1).2 rfl, hx.2⟩, hl⟩, ?_⟩
    rw [show x :: l = [x] ++ l from rfl, cnt_app]
    exact ⟨by omega, fun h => by have := h4 h; omega⟩
section
variable {kind : Int} {n : Need} (h : needK kind = some n)
include h
theorem ok_snoc {b : List Int} {x : Int} (hb : ∀ y ∈ b, OkX n y) (hx : OkX n x) : ∀ y ∈ b ++ [x], OkX n y := by
  intro y hy
  rcases List.mem_append.1 hy with hy | hy
  · exact hb y hy
  · rw [List.mem_singleton.1 hy]; exact hx
theorem labB_iff {b ms : List Int} (hb : ∀ y ∈ b, OkX n y) (h2 : 2 ≤ b.length + 1 + ms.length) (hsm : b.length + 1 + ms.length ≤ 1000000) (m : Int) {x : Int} (hx : x = 1 ∨ x = 2 ∨ x = 4) :
    labB m n.may n.counts n.least (mostN n) (cntN n b) ms x = true ↔ btM m x = true ∧ ∃ l, Lab btM ms l ∧ fitsD kind ((b ++ [x]) ++ l) = true := by
  have hc : cntN n b ≤ b.length := List.countP_le_length
  unfold labB
  rw [Bool.and_eq_true, bit_two (needK_ok h) m hx, Bool.and_eq_true]
  change (_ ∧ canN n (cntN n b) (x :: ms) = true) ↔ _
  constructor
  · rintro ⟨⟨h1, h3⟩, h4⟩
    rw [can_cons (needK_ok h) ⟨hx, h3⟩ (by omega), ← cnt_app] at h4
    exact ⟨h1, (can_key h (ok_snoc h hb ⟨hx, h3⟩) (by simp; omega) (by simp; omega)).2 h4⟩
  · rintro ⟨h1, l, hl, hf⟩
    have hok : OkX n x := ((fits_some h _).1 hf).2.1 x (by simp)
    rw [can_cons (needK_ok h) hok (by omega), ← cnt_app]
    exact ⟨⟨h1, hok.2⟩, (can_key h (ok_snoc h hb hok) (by simp; omega) (by simp; omega)).1 ⟨l, hl, hf⟩⟩
open Classical in
theorem greedy_st {xs : List Int} (h2 : 2 ≤ xs.length) (hsm : xs.length ≤ 1000000) : ∀ (j k : Nat), k + j = xs.length →
    (∀ y ∈ (stL n.may n.counts n.least (mostN n) xs k).1, OkX n y) → (stL n.may n.counts n.least (mostN n) xs k).2 = cntN n (stL n.may n.counts n.least (mostN n) xs k).1 →
    (∃ l, Lab btM (xs.drop k) l ∧ fitsD kind ((stL n.may n.counts n.least (mostN n) xs k).1 ++ l) = true) →
    greedyC btM (fun b ms => decide (∃ l, Lab btM ms l ∧ fitsD kind (b ++ l) = true)) (xs.drop k) (stL n.may n.counts n.least (mostN n) xs k).1 = (stL n.may n.counts n.least (mostN n) xs xs.length).1
  | 0, k, hk, _, _, _ => by
    have : k = xs.length := by omega
    subst this
    rw [List.drop_length, greedyC]
  | j + 1, k, hk, hok, hhad, hex => by
    have hlt : k < xs.length := by omega
    have hlen := stL_len n.may n.counts n.least (mostN n) xs k
    have hst : stL n.may n.counts n.least (mostN n) xs (k + 1) = ((stL n.may n.counts n.least (mostN n) xs k).1 ++ [pickL (labB (xs.getD k 0) n.may n.counts n.least (mostN n) (stL n.may n.counts n.least (mostN n) xs k).2 (xs.drop (k + 1)))],
      (stL n.may n.counts n.least (mostN n) xs k).2 + if (pickL (labB (xs.getD k 0) n.may n.counts n.least (mostN n) (stL n.may n.counts n.least (mostN n) xs k).2 (xs.drop (k + 1))) == (n.counts : Int)) = true then 1 else 0) := rfl
    have ih := greedy_st h2 hsm j (k + 1) (by omega)
    rw [hst] at ih
    have hdl : (xs.drop (k + 1)).length = xs.length - (k + 1) := List.length_drop
    rw [drop_cons_I xs k hlt] at hex ⊢
    generalize (stL n.may n.counts n.least (mostN n) xs k).2 = had at hhad ih
    subst hhad
    generalize (stL n.may n.counts n.least (mostN n) xs k).1 = b at hok hlen hex ih ⊢
    generalize xs.getD k 0 = m at hex ih ⊢
    generalize xs.drop (k + 1) = ms at hex ih hdl ⊢
    have hiff := fun (x : Int) (hx : x = 1 ∨ x = 2 ∨ x = 4) => labB_iff h hok (ms := ms) (by omega) (by omega) m hx
    generalize labB m n.may n.counts n.least (mostN n) (cntN n b) ms = p at hiff ih
    have hand : ∀ x : Int, (x = 1 ∨ x = 2 ∨ x = 4) → ((btM m x && decide (∃ l, Lab btM ms l ∧ fitsD kind ((b ++ [x]) ++ l) = true)) = true ↔ p x = true) := fun x hx => by
      rw [Bool.and_eq_true, decide_eq_true_eq, hiff x hx]
    have hpick : (pickL p = 1 ∨ pickL p = 2 ∨ pickL p = 4) ∧ p (pickL p) = true := by
      obtain ⟨l, hl, hf⟩ := hex
      cases l with
      | nil => exact hl.elim
      | cons x l =>
        obtain ⟨hx, hbt, hl⟩ := hl
        have hpx : p x = true := (hiff x hx).2 ⟨hbt, l, hl, by simpa using hf⟩
        unfold pickL
        by_cases p1 : p 1 = true
        · rw [if_pos p1]; exact ⟨.inl rfl, p1⟩
        · by_cases p2 : p 2 = true
          · rw [if_neg p1, if_pos p2]; exact ⟨.inr (.inl rfl), p2⟩
          · by_cases p4 : p 4 = true
            · rw [if_neg p1, if_neg p2, if_pos p4]; exact ⟨.inr (.inr rfl), p4⟩
            · rcases hx with rfl | rfl | rfl
              · exact absurd hpx p1
              · exact absurd hpx p2
              · exact absurd hpx p4
    have htake : takeC btM (fun b ms => decide (∃ l, Lab btM ms l ∧ fitsD kind (b ++ l) = true)) m ms b = pickL p := by
      unfold takeC pickL
      simp only [hand 1 (by simp), hand 2 (by simp), hand 4 (by simp)]
    rw [greedyC, htake]
    obtain ⟨hp1, hp2⟩ := hpick
    obtain ⟨_, l, hl, hf⟩ := (hiff _ hp1).1 hp2
    have hokx : OkX n (pickL p) := ((fits_some h _).1 hf).2.1 _ (by simp)
    generalize pickL p = x at *
    refine ih (ok_snoc h hok hokx) ?_ ⟨l, hl, hf⟩
    rw [cnt_app]
    congr 1
    unfold cntN
    rw [List.countP_cons, List.countP_nil]
    simp
open Classical in
theorem labels_some {xs : List Int} (hsm : xs.length ≤ 1000000) : (if xs.length < 2 ∨ canN n 0 xs = false then none else some (stL n.may n.counts n.least (mostN n) xs xs.length).1) = labD kind xs := by
  unfold labD
  by_cases h2 : xs.length < 2
  · rw [if_pos (.inl h2)]
    cases ha : afterC btM (fitsD kind) xs [] with
    | none => rfl
    | some r =>
      obtain ⟨l, rfl, hl, hf⟩ := afterC_some ha
      have := ((fits_some h _).1 hf).1
      rw [lab_len hl] at this
      omega
  · have hk := can_key h (b := []) (ms := xs) (by simp) (by simp; omega) (by simpa using hsm)
    rw [show cntN n [] = 0 from rfl] at hk
    by_cases hc : canN n 0 xs = true
    · rw [if_neg (by simp [h2, hc])]
      have hex := hk.2 hc
      have := after_greedy (bt := btM) (fits := fitsD kind) (E := fun b ms => decide (∃ l, Lab btM ms l ∧ fitsD kind (b ++ l) = true)) (fun b ms => by simp) (ms := xs) (b := []) (by simpa using hex)
      rw [this]
      exact congrArg some (greedy_st h (by omega) hsm xs.length 0 (by omega) (by simp [stL]) rfl hex).symm
    · rw [if_pos (.inr (by simpa using hc))]
      cases ha : afterC btM (fitsD kind) xs [] with
      | none => rfl
      | some r =>
        obtain ⟨l, rfl, hl, hf⟩ := afterC_some ha
        exact absurd (hk.1 ⟨r, hl, hf⟩) hc
end
theorem labels_same (kind : Int) {xs : List Int} (hsm : xs.length ≤ 1000000) : labelsP kind xs = labD kind xs := by
  unfold labelsP
  cases h : needK kind with
  | none =>
    unfold labD
    cases ha : afterC btM (fitsD kind) xs [] with
    | none => rfl
    | some r =>
      obtain ⟨l, rfl, hl, hf⟩ := afterC_some ha
      rw [fits_none h] at hf
      cases hf
  | some n => exact labels_some h hsm
theorem notLab_iff (x : Int) : notLab x = false ↔ x = 1 ∨ x = 2 ∨ x = 4 := by
  simp [notLab]; omega
theorem lab_self : ∀ {xs : List Int}, (∀ x ∈ xs, x = 1 ∨ x = 2 ∨ x = 4) → Lab btM xs xs
  | [], _ => trivial
  | x :: xs, h => ⟨h x (by simp), (bit_self (h x (by simp)) (h x (by simp))).2 rfl, lab_self (fun y hy => h y (by simp [hy]))⟩
theorem lab_only : ∀ {xs l : List Int}, (∀ x ∈ xs, x = 1 ∨ x = 2 ∨ x = 4) → Lab btM xs l → l = xs
  | [], [], _, _ => rfl
  | [], _ :: _, _, h => h.elim
  | _ :: _, [], _, h => h.elim
  | x :: xs, y :: l, h, hl => by
    rw [(bit_self (h x (by simp)) hl.1).1 hl.2.1, lab_only (fun y hy => h y (by simp [hy])) hl.2.2]
theorem fits_same (kind : Int) {xs : List Int} (hsm : xs.length ≤ 1000000) : fitsP kind xs = fitsD kind xs := by
  unfold fitsP
  cases h : needK kind with
  | none => exact (fits_none h xs).symm
  | some n =>
    simp only
    by_cases h2 : 1 < xs.length
    · by_cases ha : ∀ x ∈ xs, x = 1 ∨ x = 2 ∨ x = 4
      · have e : xs.any notLab = false := List.any_eq_false.2 (fun x hx => by rw [(notLab_iff x).2 (ha x hx)]; simp)
        have hk := can_key h (b := []) (ms := xs) (by simp) (by simp; omega) (by simpa using hsm)
        rw [show cntN n [] = 0 from rfl] at hk
        rw [e, Bool.eq_iff_iff]
        simp only [h2, decide_true, Bool.not_false, Bool.true_and, List.nil_append] at hk ⊢
        rw [← hk]
        exact ⟨fun ⟨l, hl, hf⟩ => lab_only ha hl ▸ hf, fun hf => ⟨xs, lab_self ha, hf⟩⟩
      · have e : xs.any notLab = true := by
          simp only [Classical.not_forall] at ha
          obtain ⟨x, hx, hn⟩ := ha
          exact List.any_eq_true.2 ⟨x, hx, by cases hq : notLab x with
            | true => rfl
            | false => exact absurd ((notLab_iff x).1 hq) hn⟩
        rw [e]
        have : fitsD kind xs = false := by
          cases hf : fitsD kind xs with
          | false => rfl
          | true => exact absurd (fun x hx => (((fits_some h _).1 hf).2.1 x hx).1) ha
        rw [this]; simp
    · have : fitsD kind xs = false := by
        cases hf : fitsD kind xs with
        | false => rfl
        | true => have := ((fits_some h _).1 hf).1; omega
      rw [this]; simp [h2]
end Go.Proofs.Ytidpmbbkpclccaa
