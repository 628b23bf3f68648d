/- What is led to is closed: pure. -/
import Derived.Test.YtdihpobegoihkaaDoorTurnPure
namespace Go.Proofs.YtdihpobegoihkaaDoor
set_option linter.all false
open Go.RowKit

/-- A path's last arc. -/
theorem Reach.last {M : Nat → Nat → Bool} {a b : Nat} (h : Reach M a b) : ∃ c, (a = c ∨ Reach M a c) ∧ M c b = true := by
  induction h with
  | one h => exact ⟨_, .inl rfl, h⟩
  | more h t ih =>
    obtain ⟨c, hc, hm⟩ := ih
    refine ⟨c, .inr ?_, hm⟩
    rcases hc with rfl | hc
    · exact .one h
    · exact .more h hc
section
variable {n : Nat} {J : List ArcI} {m : Int} {ps pw : Nat → Bool} {v w : Nat}
theorem fromB_start (h1 : ps v = true) (h2 : pw v = true) (h3 : v < n) : fromB n J m ps pw v = true :=
  (fromB_iff v).2 ⟨v, by simp [startB, h1, h2, h3], .inl rfl⟩
theorem fromB_next (h : fromB n J m ps pw v = true) (ha : rowM n J m v w = true) (hw : pw w = true) : fromB n J m ps pw w = true := by
  obtain ⟨u, hu, hr⟩ := (fromB_iff v).1 h
  have e : arcB n J m pw v w = true := by rw [arcB, ha, hw]; rfl
  refine (fromB_iff w).2 ⟨u, hu, .inr ?_⟩
  rcases hr with rfl | hr
  · exact .one e
  · exact hr.trans (.one e)
theorem fromB_led (h : fromB n J m ps pw v = true) : pw v = true ∧ v < n ∧ (ps v = true ∨ ∃ w, w < n ∧ fromB n J m ps pw w = true ∧ rowM n J m w v = true) := by
  obtain ⟨u, hu, hr⟩ := (fromB_iff v).1 h
  have hu' := hu
  simp only [startB, Bool.and_eq_true, decide_eq_true_eq] at hu'
  rcases hr with rfl | hr
  · exact ⟨hu'.1.2, hu'.2, .inl hu'.1.1⟩
  · obtain ⟨c, hc, hm⟩ := hr.last
    have hm' := hm
    rw [arcB, Bool.and_eq_true] at hm'
    have hP : fromB n J m ps pw c = true := (fromB_iff c).2 ⟨u, hu, hc⟩
    have hcn : c < n := by
      rcases hc with rfl | hc
      · exact hu'.2
      · obtain ⟨d, _, hd⟩ := hc.last
        rw [arcB, Bool.and_eq_true] at hd
        exact rowM_lt _ _ _ hd.1
    exact ⟨hm'.2, rowM_lt _ _ _ hm'.1, .inr ⟨c, hcn, hP, hm'.1⟩⟩
end
end Go.Proofs.YtdihpobegoihkaaDoor
