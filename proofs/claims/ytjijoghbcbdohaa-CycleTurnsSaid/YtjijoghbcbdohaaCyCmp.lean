/- The document's Compare of cycles. -/
import Derived.Test.YtjijoghbcbdohaaCyRef
import Derived.Test.YtjijoghbcbdohaaRefCmp
namespace Go.Proofs.Ytjijoghbcbdohaa
set_option linter.all false
open Go.RowKit
set_option maxRecDepth 100000

theorem Compare26_is {W : World} {A B : Option Addr} {c d : Nat} {xs ys : List Int} (h1 : IntsAt W A xs) (h2 : IntsAt W B ys) (hs1 : xs.length ≤ 1000000) (hs2 : ys.length ≤ 1000000) :
    Calls Try.prog 15 #[.slice A xs.length c, .slice B ys.length d] W (Rets fun v w' => v = .int .i64 (cmpS (turnL xs) (turnL ys)) ∧ Fr0 W w') := by
  have HA := Lib.hid (Turn26_is (c := c) h1 hs1)
  have HB := Lib.hid (fun w' (f : Fr0 W w') => Turn26_is (c := d) (h2.fr0 f) hs2)
  have hl1 := turnL_len xs
  have hl2 := turnL_len ys
  have hl1' : (turnL xs).length ≤ 1000000 := by omega
  have hl2' : (turnL ys).length ≤ 1000000 := by omega
  clear h1 h2 hl1 hl2
  generalize turnL xs = ts at HA hl1' ⊢
  generalize turnL ys = us at HB hl2' ⊢
  go_enter Try.func15, Try.ntmps15
  go_wp2_with (first
    | (go_at_call 27; refine (Compare5_is (own_intsI (own_fr0 ho1 hf2) (by omega)) (own_intsI ho2 (by omega)) (by omega)).mono ?_; rintro e w3 ⟨rfl, hf3⟩)
    | (go_at_call 11; refine (HB.out _ hf1).mono ?_; rintro e w2 ⟨v2, rfl, hf2, ho2⟩; obtain ⟨A2, c2, rfl⟩ := own_form ho2)
    | (go_at_call 11; refine (HA.out).mono ?_; rintro e w1 ⟨v1, rfl, hf1, ho1⟩; obtain ⟨A1, c1, rfl⟩ := own_form ho1))
  go_ret
  exact ⟨_, rfl, rfl, (hf1.trans0 hf2).trans0 hf3⟩
end Go.Proofs.Ytjijoghbcbdohaa
