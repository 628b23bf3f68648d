/- Simple cycles, and how two stand: the program's answers, walked. -/
import Derived.Test.YtidpmbbkpclccaaTurnP
import Derived.Test.YtidpmbbkpclccaaSetsB
import Derived.Test.YtidpmbbkpclccaaSetsE
namespace Go.Proofs.Ytidpmbbkpclccaa
set_option linter.all false
open Go.RowKit
set_option maxRecDepth 100000

theorem Simple_is {W : World} {A : Option Addr} {c : Nat} {xs : List Int} (h : IntsAt W A xs) (hp : Plain A xs.length c) (hsm : xs.length ≤ 100000) :
    Calls Try.prog 13 #[.slice A xs.length c] W (Rets (SamePost (simpleC xs) W)) := by
  by_cases h1 : 1 < xs.length
  · have h1' : (1 : Int) < (xs.length : Int) := by omega
    have HO := Lib.hid (SOf_is (c := c) h hp (by omega))
    have HR : Hid (simpleC xs = (((ofI xs).length : Int) == (xs.length : Int))) := Lib.hid (by unfold simpleC; rw [show decide (1 < xs.length) = true by simp [h1], Bool.true_and, Bool.eq_iff_iff]; simp; omega)
    generalize ofI xs = L at HO HR
    clear h h1
    unfold SetPost setV at HO
    go_enter Try.func13, Try.ntmps13
    go_wp2_with (first | (go_at_call 31; refine (SLen_is A1 L.length c1 w1).mono ?_; rintro e w2 ⟨rfl, hf2⟩) | (go_at_call 30; refine (HO.out).mono ?_; rintro e w1 ⟨_, rfl, A1, c1, rfl, hf1, _, _⟩))
    go_ret
    refine ⟨_, rfl, congrArg Value.bool (show _ = simpleC xs from ?_), hf1.trans0 hf2⟩
    rw [HR.out]
  · have h1' : ¬ (1 : Int) < (xs.length : Int) := by omega
    have hr : simpleC xs = false := by simp [simpleC, h1]
    rw [hr]
    clear hr h1
    go_enter Try.func13, Try.ntmps13
    go_wp2_with fail
    go_ret
    exact ⟨_, rfl, rfl, Fr.refl _ _⟩
theorem CyCompare_is {W : World} {A B : Option Addr} {c d : Nat} {xs ys : List Int} (h1 : IntsAt W A xs) (hp1 : Plain A xs.length c) (hc1 : xs.length ≤ c) (h2 : IntsAt W B ys) (hp2 : Plain B ys.length d) (hc2 : ys.length ≤ d) (hs1 : xs.length ≤ 100000) (hs2 : ys.length ≤ 100000) :
    Calls Try.prog 14 #[.slice A xs.length c, .slice B ys.length d] W (Rets fun v w' => v = .int .i64 (cmpS (turnC xs) (turnC ys)) ∧ Fr0 W w') := by
  have HA := Lib.hid (Turn_is (c := c) h1 hp1 hc1 hs1)
  have HB := Lib.hid (fun w' (f : Fr0 W w') => Turn_is (c := d) (h2.fr0 f) hp2 hc2 hs2)
  have hl1 := turnC_len xs
  have hl2 := turnC_len ys
  have hl1' : (turnC xs).length ≤ 1000000 := by omega
  have hl2' : (turnC ys).length ≤ 1000000 := by omega
  clear h1 h2 hp1 hp2 hl1 hl2
  generalize turnC xs = us at *
  generalize turnC ys = vs at *
  unfold IListPost at HA HB
  go_enter Try.func14, Try.ntmps14
  go_wp2_with (first
    | (go_at_call 32; refine (SCompare_is (own_intsI (own_fr0 ho1 hf2) (by omega)) (own_intsI ho2 (by omega)) (by omega)).mono ?_; rintro e w3 ⟨rfl, rfl⟩)
    | (go_at_call 12; refine (HB.out _ hf1).mono ?_; rintro e w2 ⟨v2, rfl, hf2, ho2⟩; obtain ⟨A2, c2, rfl⟩ := own_form ho2)
    | (go_at_call 12; refine (HA.out).mono ?_; rintro e w1 ⟨v1, rfl, hf1, ho1⟩; obtain ⟨A1, c1, rfl⟩ := own_form ho1))
  go_ret
  exact ⟨_, rfl, rfl, hf1.trans0 hf2⟩
end Go.Proofs.Ytidpmbbkpclccaa
