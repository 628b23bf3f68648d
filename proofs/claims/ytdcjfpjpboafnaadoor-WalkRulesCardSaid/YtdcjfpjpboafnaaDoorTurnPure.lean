/- What is led to, turned round: pure. -/
import Derived.Test.YtdcjfpjpboafnaaDoorAgree
import Derived.Test.YtdcjfpjpboafnaaDoorReachA
namespace Go.Proofs.YtdcjfpjpboafnaaDoor
set_option linter.all false
open Go.RowKit

theorem hit_neg {m x : Int} (h : hit m x = true) : hit (-1) x = true := by
  rw [hit_iff] at h ⊢
  intro e
  apply h
  have e2 : bv (-1) = BitVec.allOnes 64 := by decide
  rw [e2, BitVec.and_allOnes] at e
  rw [e, BitVec.zero_and]
theorem turn_arc {n : Nat} {l J J' : List ArcI} (h1 : Built n l J) (h2 : Built n (turnL J n) J') (m : Int) (u w : Nat) : rowM n J m w u = rowM n J' m u w := by
  rw [Bool.eq_iff_iff]
  constructor
  · intro h
    have hl := h1.lt h
    have hne : ((w : Int) ≠ (u : Int)) := by
      rw [h1.hit, Bool.and_eq_true, decide_eq_true_iff] at h
      exact h.2
    rw [rowM, putP, Bool.false_or, Bool.and_eq_true, decide_eq_true_iff, decide_eq_true_iff, List.mem_map] at h
    obtain ⟨_, b, hb, e⟩ := h
    obtain ⟨hb1, hb2⟩ := List.mem_filter.1 hb
    rw [h2.hit, Bool.and_eq_true, decide_eq_true_iff]
    refine ⟨List.any_eq_true.2 ⟨backA w b, List.mem_flatMap.2 ⟨w, List.mem_range.2 hl.1, List.mem_map.2 ⟨b, List.mem_filter.2 ⟨hb1, hit_neg hb2⟩, rfl⟩⟩, ?_⟩, fun e => hne e.symm⟩
    simp only [backA, Bool.and_eq_true, beq_iff_eq]
    exact ⟨⟨e, trivial⟩, hb2⟩
  · intro h
    have hl := h2.lt h
    rw [h2.hit, Bool.and_eq_true, decide_eq_true_iff] at h
    obtain ⟨a, ha, hh⟩ := List.any_eq_true.1 h.1
    obtain ⟨v, hv, ha⟩ := List.mem_flatMap.1 ha
    obtain ⟨b, hb, rfl⟩ := List.mem_map.1 ha
    simp only [backA, Bool.and_eq_true, beq_iff_eq] at hh
    obtain ⟨⟨e1, e2⟩, e3⟩ := hh
    have e4 : v = w := by omega
    subst e4
    rw [rowM, putP, Bool.false_or, Bool.and_eq_true, decide_eq_true_iff, decide_eq_true_iff, List.mem_map]
    exact ⟨hl.1, b, List.mem_filter.2 ⟨(List.mem_filter.1 hb).1, e3⟩, e1⟩
theorem reach_rev {n : Nat} {J J' : List ArcI} {m : Int} {pw : Nat → Bool} (hM : ∀ u w, rowM n J m w u = rowM n J' m u w) {a b : Nat} (h : Reach (arcB n J m pw) a b) : pw a = true → Reach (arcB n J' m pw) b a ∧ pw b = true ∧ b < n := by
  have key : ∀ {a b : Nat}, arcB n J m pw a b = true → pw a = true → arcB n J' m pw b a = true ∧ pw b = true ∧ b < n := fun {a b} h ha => by
    rw [arcB, Bool.and_eq_true] at h
    exact ⟨by rw [arcB, ← hM, h.1, ha]; rfl, h.2, rowM_lt _ _ _ h.1⟩
  induction h with
  | one h => exact fun ha => ⟨.one (key h ha).1, (key h ha).2⟩
  | more h _ ih => exact fun ha => ⟨(ih (key h ha).2.1).1.trans (.one (key h ha).1), (ih (key h ha).2.1).2⟩
theorem both_way {n : Nat} {J J' : List ArcI} {m a b : Int} {pw : Nat → Bool} (hn : n ≤ 100) (hM : ∀ u w, rowM n J m w u = rowM n J' m u w)
    (h : inW (fromB n J m (putP 100 (fun _ => false) [a]) pw) b = true) : inW (fromB n J' m (putP 100 (fun _ => false) [b]) pw) a = true := by
  rw [inW, Bool.and_eq_true, decide_eq_true_iff] at h ⊢
  obtain ⟨hb, h⟩ := h
  obtain ⟨t, rfl⟩ := Int.eq_ofNat_of_zero_le hb
  rw [Int.toNat_natCast] at h
  obtain ⟨u, hu, hr⟩ := (fromB_iff t).1 h
  simp only [startB, putP, Bool.false_or, Bool.and_eq_true, decide_eq_true_iff, List.mem_singleton] at hu
  obtain ⟨⟨⟨u1, rfl⟩, u2⟩, u3⟩ := hu
  rw [Int.toNat_natCast]
  refine ⟨by omega, (fromB_iff u).2 ⟨t, ?_, ?_⟩⟩
  · simp only [startB, putP, Bool.false_or, Bool.and_eq_true, decide_eq_true_iff, List.mem_singleton]
    rcases hr with rfl | hr
    · exact ⟨⟨⟨u1, trivial⟩, u2⟩, u3⟩
    · obtain ⟨_, k1, k2⟩ := reach_rev hM hr u2
      exact ⟨⟨⟨by omega, trivial⟩, k1⟩, k2⟩
  · rcases hr with rfl | hr
    · exact .inl rfl
    · exact .inr (reach_rev hM hr u2).1
theorem both_is {n : Nat} {l J J' : List ArcI} {m a b : Int} {pw : Nat → Bool} (hn : n ≤ 100) (h1 : Built n l J) (h2 : Built n (turnL J n) J') :
    inW (fromB n J m (putP 100 (fun _ => false) [a]) pw) b = inW (fromB n J' m (putP 100 (fun _ => false) [b]) pw) a := by
  rw [Bool.eq_iff_iff]
  exact ⟨both_way hn (fun u w => turn_arc h1 h2 m u w), both_way hn (fun u w => (turn_arc h1 h2 m w u).symm)⟩
end Go.Proofs.YtdcjfpjpboafnaaDoor
