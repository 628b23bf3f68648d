/- How any two rows stand is as the document says, and is a total order: the law's walk. -/
import Derived.Test.YtinjioheimpoeaaWorks05
import Derived.Test.YtinjioheimpoeaaRefCmp
namespace Go.Proofs.Ytinjioheimpoeaa
set_option linter.all false
open Go.RowKit
set_option maxRecDepth 100000

theorem SSameZ_is {W : World} {A B : Option Addr} {c d : Nat} {xs ys : List Int} (h1 : IntsAt W A xs) (h2 : IntsAt W B ys) (hsm : xs.length ≤ 10000000) :
    Calls Try.prog 34 #[.slice A xs.length c, .slice B ys.length d] W fun e w' => e = .returned (.bool (cmpS xs ys == 0)) ∧ W = w' := by
  have hr : decide (xs = ys) = (cmpS xs ys == 0) := by rw [Bool.eq_iff_iff, decide_eq_true_iff, beq_iff_eq, cmpS_zero]
  exact hr ▸ SSame_is h1 h2 hsm
set_option maxHeartbeats 8000000 in
theorem SortedCompares_is {W : World} {A B C : Option Addr} {c d f : Nat} {xs ys zs : List Int} (hx : IntsAt W A xs) (hpx : Plain A xs.length c) (hy : IntsAt W B ys) (hpy : Plain B ys.length d) (hz : IntsAt W C zs) (hpz : Plain C zs.length f) :
    Calls Try.prog 5 #[.slice A xs.length c, .slice B ys.length d, .slice C zs.length f] W (Rets (SamePost true W)) := by
  by_cases hl : xs.length ≤ 300 ∧ ys.length ≤ 300 ∧ zs.length ≤ 300
  · obtain ⟨l1, l2, l3⟩ := hl
    have k1 : ¬ (xs.length : Int) > 300 := by omega
    have k2 : ¬ (ys.length : Int) > 300 := by omega
    have k3 : ¬ (zs.length : Int) > 300 := by omega
    have HA := Lib.hid (SCompare_is (c := c) (d := d) hx hy (by omega))
    have HB := Lib.hid (SCompare_is (c := d) (d := f) hy hz (by omega))
    have HC := Lib.hid (SCompare_is (c := c) (d := f) hx hz (by omega))
    have HR := Lib.hid (Compare5_is (c := c) (d := d) hx hy (by omega))
    have HS := Lib.hid (fun w' (g : Fr0 W w') => SSameZ_is (c := c) (d := d) (hx.fr0 g) (hy.fr0 g) (by omega))
    have HD := Lib.hid (fun w' (g : Fr0 W w') => cmpS_swap xs ys ▸ SCompare_is (c := d) (d := c) (hy.fr0 g) (hx.fr0 g) (by omega))
    have b1 := cmpS_three xs ys
    have b2 := cmpS_three ys zs
    have b3 := cmpS_three xs zs
    have p1 : cmpS xs ys ≤ 0 → cmpS ys zs ≤ 0 → cmpS xs zs ≤ 0 := cmpS_trans xs ys zs
    have p2 : cmpS xs ys = 0 → cmpS ys zs = cmpS xs zs := fun h => by rw [(cmpS_zero xs ys).1 h]
    generalize cmpS xs ys = x at HA HR HS HD b1 p1 p2
    generalize cmpS ys zs = y at HB b2 p1 p2
    generalize cmpS xs zs = z at HC b3 p1 p2
    have b11 : -1 ≤ x := by omega
    have b12 : x ≤ 1 := by omega
    have hcases : (x > 0 ∧ x ≠ 0) ∨ (¬ x > 0 ∧ x ≠ 0 ∧ y > 0) ∨ (¬ x > 0 ∧ x ≠ 0 ∧ ¬ y > 0 ∧ z ≤ 0) ∨ (x = 0 ∧ y = z ∧ y > 0) ∨ (x = 0 ∧ y = z ∧ ¬ y > 0) := by omega
    clear hx hpx hy hpy hz hpz b1 b2 b3 p1 p2
    rcases hcases with ⟨q1, q2⟩ | ⟨q1, q2, q3⟩ | ⟨q1, q2, q3, q4⟩ | ⟨rfl, rfl, q3⟩ | ⟨rfl, rfl, q3⟩
    all_goals
      go_enter Try.func5, Try.ntmps5
      go_wp2_with (first
        | (go_at_call 14; refine (works05_is _).mono ?_; rintro e w9 ⟨_, rfl, rfl, hf9⟩)
        | (go_at_call 33; refine (HR.out).mono ?_; rintro e w1 ⟨rfl, hf1⟩)
        | (go_at_call 34; refine (HS.out _ hf1).mono ?_; rintro e w' ⟨rfl, rfl⟩)
        | (go_at_call 32; with_reducible refine (HD.out _ hf1).mono ?_; rintro e w' ⟨rfl, rfl⟩)
        | (go_at_call 32; with_reducible refine (HA.out).mono ?_; rintro e w' ⟨rfl, rfl⟩)
        | (go_at_call 32; with_reducible refine (HB.out).mono ?_; rintro e w' ⟨rfl, rfl⟩)
        | (go_at_call 32; with_reducible refine (HC.out).mono ?_; rintro e w' ⟨rfl, rfl⟩))
      go_ret
      exact ⟨_, rfl, rfl, hf1.trans0 hf9⟩
  · by_cases l1 : xs.length > 300
    · have k1 : (xs.length : Int) > 300 := by omega
      clear hl hx hpx hy hpy hz hpz
      go_enter Try.func5, Try.ntmps5
      go_wp2_with (go_at_call 14; refine (works05_is _).mono ?_; rintro e w9 ⟨_, rfl, rfl, hf9⟩)
      go_ret
      exact ⟨_, rfl, rfl, hf9⟩
    · have k1 : ¬ (xs.length : Int) > 300 := by omega
      by_cases l2 : ys.length > 300
      · have k2 : (ys.length : Int) > 300 := by omega
        clear hl hx hpx hy hpy hz hpz
        go_enter Try.func5, Try.ntmps5
        go_wp2_with (go_at_call 14; refine (works05_is _).mono ?_; rintro e w9 ⟨_, rfl, rfl, hf9⟩)
        go_ret
        exact ⟨_, rfl, rfl, hf9⟩
      · have k2 : ¬ (ys.length : Int) > 300 := by omega
        have k3 : (zs.length : Int) > 300 := by omega
        clear hl hx hpx hy hpy hz hpz
        go_enter Try.func5, Try.ntmps5
        go_wp2_with (go_at_call 14; refine (works05_is _).mono ?_; rintro e w9 ⟨_, rfl, rfl, hf9⟩)
        go_ret
        exact ⟨_, rfl, rfl, hf9⟩
end Go.Proofs.Ytinjioheimpoeaa
