/- The closing of a matrix is what paths lead to. -/
import Derived.Test.YtdihpobegoihkaaDoorMasks
namespace Go.Proofs.YtdihpobegoihkaaDoor
set_option linter.all false
set_option maxRecDepth 100000

/-- One arc at least leads from one to another. -/
inductive Reach (M : Nat → Nat → Bool) : Nat → Nat → Prop
  | one {a b} (h : M a b = true) : Reach M a b
  | more {a b c} (h : M a b = true) (t : Reach M b c) : Reach M a c
theorem Reach.trans {M : Nat → Nat → Bool} {a b c : Nat} (h : Reach M a b) (k : Reach M b c) : Reach M a c := by
  induction h with
  | one h => exact .more h k
  | more h _ ih => exact .more h (ih k)
theorem Reach.snoc {M : Nat → Nat → Bool} {a b c : Nat} (h : Reach M a b) (k : M b c = true) : Reach M a c := h.trans (.one k)
theorem stepM_iff (M : Nat → Nat → Bool) (b i x : Nat) : stepM M b i x = true ↔ M i x = true ∨ (M i b = true ∧ M b x = true) := by
  simp [stepM]
theorem warsh_sound (M : Nat → Nat → Bool) : ∀ (k a b : Nat), warsh M k a b = true → Reach M a b := by
  intro k
  induction k with
  | zero => intro a b h; exact .one h
  | succ k ih =>
    intro a b h
    rw [warsh, stepM_iff] at h
    rcases h with h | ⟨h1, h2⟩
    · exact ih a b h
    · exact (ih a k h1).trans (ih k b h2)
theorem warsh_mono (M : Nat → Nat → Bool) : ∀ (k a b : Nat), M a b = true → warsh M k a b = true := by
  intro k
  induction k with
  | zero => intro a b h; exact h
  | succ k ih => intro a b h; rw [warsh, stepM_iff]; exact .inl (ih a b h)
theorem warsh_via (M : Nat → Nat → Bool) : ∀ (k c a b : Nat), c < k → warsh M k a c = true → warsh M k c b = true → warsh M k a b = true := by
  intro k
  induction k with
  | zero => intro c a b h; omega
  | succ k ih =>
    intro c a b hc h1 h2
    rw [warsh, stepM_iff] at h1 h2 ⊢
    by_cases e : c = k
    · subst e
      have k1 : warsh M c a c = true := h1.elim id (fun h => h.1)
      have k2 : warsh M c c b = true := h2.elim id (fun h => h.2)
      exact .inr ⟨k1, k2⟩
    · have hck : c < k := by omega
      rcases h1 with h1 | ⟨h1, h1'⟩
      · rcases h2 with h2 | ⟨h2, h2'⟩
        · exact .inl (ih c a b hck h1 h2)
        · exact .inr ⟨ih c a k hck h1 h2, h2'⟩
      · rcases h2 with h2 | ⟨h2, h2'⟩
        · exact .inr ⟨h1, ih c k b hck h1' h2⟩
        · exact .inr ⟨h1, h2'⟩
theorem warsh_iff {M : Nat → Nat → Bool} {n : Nat} (hM : ∀ i x, M i x = true → x < n) (a b : Nat) : warsh M n a b = true ↔ Reach M a b := by
  refine ⟨warsh_sound M n a b, fun h => ?_⟩
  induction h with
  | one h => exact warsh_mono M n _ _ h
  | more h _ ih => exact warsh_via M n _ _ _ (hM _ _ h) (warsh_mono M n _ _ h) ih
theorem rowL_filter (v : Nat) : ∀ J : List ArcI, J.Pairwise (fun a b => a.f ≤ b.f) → rowL J v = J.filter (fun a => decide (a.f = (v : Int))) := by
  intro J
  induction J with
  | nil => intro _; rfl
  | cons a J ih =>
    intro hp
    rw [List.pairwise_cons] at hp
    have h1 := ih hp.2
    have hF : cntF (a :: J) v = (if a.f < (v : Int) then 1 else 0) + cntF J v := by
      simp only [cntF, List.filter_cons]
      by_cases e : a.f < (v : Int)
      · simp only [e, decide_true, if_true, List.length_cons]; omega
      · simp only [e, decide_false, if_false, Bool.false_eq_true]; omega
    have hC : cnt1 (a :: J) (v + 1) = (if a.f = (v : Int) then 1 else 0) + cnt1 J (v + 1) := by
      simp only [cnt1, List.filter_cons]
      by_cases e : a.f = (v : Int)
      · have e2 : a.f + 1 = ((v + 1 : Nat) : Int) := by omega
        rw [if_pos (decide_eq_true e2), if_pos e, List.length_cons]; omega
      · have e2 : ¬ a.f + 1 = ((v + 1 : Nat) : Int) := by omega
        rw [if_neg (by simpa using e2), if_neg e]; omega
    rcases Int.lt_trichotomy a.f (v : Int) with e | e | e
    · rw [rowL, hF, hC, if_pos e, if_neg (show ¬ a.f = (v : Int) by omega), Nat.zero_add, Nat.add_comm 1, List.drop_succ_cons, List.filter_cons, if_neg (by simp; omega), ← h1]
      rfl
    · have hz : cntF J v = 0 := by
        unfold cntF
        rw [List.length_eq_zero_iff, List.filter_eq_nil_iff]
        intro b hb; have := hp.1 b hb; simp; omega
      rw [rowL, hF, hC, if_neg (show ¬ a.f < (v : Int) by omega), if_pos e, Nat.zero_add, hz, List.drop_zero, Nat.add_comm 1, List.take_succ_cons, List.filter_cons, if_pos (by simpa using e), ← h1, rowL, hz, List.drop_zero]
    · have hz : cntF J v = 0 := by
        unfold cntF
        rw [List.length_eq_zero_iff, List.filter_eq_nil_iff]
        intro b hb; have := hp.1 b hb; simp; omega
      have hz1 : cnt1 J (v + 1) = 0 := by
        unfold cnt1
        rw [List.length_eq_zero_iff, List.filter_eq_nil_iff]
        intro b hb; have := hp.1 b hb; simp; omega
      rw [rowL, hF, hC, if_neg (show ¬ a.f < (v : Int) by omega), if_neg (show ¬ a.f = (v : Int) by omega), hz1, Nat.add_zero, List.take_zero, List.filter_cons, if_neg (by simp; omega), ← h1, rowL, hz1, List.take_zero]
theorem JOk.pair {n : Nat} {J : List ArcI} (h : JOk n J) : J.Pairwise (fun a b => a.f ≤ b.f) := by
  rw [List.pairwise_iff_getElem]
  intro i j hi hj hij
  have := h.rise i j hij hj
  rwa [List.getD_eq_getElem?_getD, List.getD_eq_getElem?_getD, List.getElem?_eq_getElem hi, List.getElem?_eq_getElem hj] at this
/-- A row of the graph's closing begins as its arcs say. -/
theorem rowM_iff {n : Nat} {J : List ArcI} (h : JOk n J) (m : Int) (i x : Nat) : rowM n J m i x = arcHit m J i x := by
  have hr := rowL_filter i J h.pair
  rw [Bool.eq_iff_iff, rowM, putP, Bool.false_or, Bool.and_eq_true, decide_eq_true_iff, decide_eq_true_iff, outL, hr, arcHit, List.any_eq_true, List.mem_map]
  constructor
  · rintro ⟨_, a, ha, e⟩
    obtain ⟨h1, h2⟩ := List.mem_filter.1 ha
    obtain ⟨h3, h4⟩ := List.mem_filter.1 h1
    refine ⟨a, h3, ?_⟩
    simp only [Bool.and_eq_true, beq_iff_eq]
    exact ⟨⟨by simpa using h4, e⟩, h2⟩
  · rintro ⟨a, ha, he⟩
    simp only [Bool.and_eq_true, beq_iff_eq] at he
    obtain ⟨⟨e1, e2⟩, e3⟩ := he
    have := h.ends a ha
    refine ⟨by omega, a, List.mem_filter.2 ⟨List.mem_filter.2 ⟨ha, by simpa using e1⟩, e3⟩, e2⟩
theorem rowM_lt {n : Nat} {J : List ArcI} (m : Int) (i x : Nat) (h : rowM n J m i x = true) : x < n := by
  rw [rowM, putP, Bool.false_or, Bool.and_eq_true, decide_eq_true_iff] at h
  exact h.1
end Go.Proofs.YtdihpobegoihkaaDoor
