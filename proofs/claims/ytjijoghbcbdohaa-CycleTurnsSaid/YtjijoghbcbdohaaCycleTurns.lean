/- CycleTurns walked. -/
import Derived.Test.YtjijoghbcbdohaaWorks26
import Derived.Test.YtjijoghbcbdohaaCyCmp
namespace Go.Proofs.Ytjijoghbcbdohaa
set_option linter.all false
open Go.RowKit
set_option maxRecDepth 100000

set_option maxHeartbeats 4000000 in
theorem CycleTurns_is {W : World} {A : Option Addr} {c : Nat} {xs : List Int} (hx : IntsAt W A xs) (hp : Plain A xs.length c) (hcp : xs.length ≤ c) {B : Option Addr} {d : Nat} {ys : List Int} (hy : IntsAt W B ys) (hp2 : Plain B ys.length d) (hcp2 : ys.length ≤ d) :
    Calls Try.prog 3 #[.slice A xs.length c, .slice B ys.length d] W (Rets (SamePost true W)) := by
  by_cases hbig : (60 : Int) < (xs.length : Int)
  · go_enter Try.func3, Try.ntmps3
    go_wp2_with (go_at_call 8; refine (works26_is _).mono ?_; rintro e w' ⟨_, rfl, rfl, hf⟩)
    go_ret
    exact ⟨_, rfl, rfl, hf⟩
  · by_cases hbig2 : (60 : Int) < (ys.length : Int)
    · go_enter Try.func3, Try.ntmps3
      go_wp2_with (go_at_call 8; refine (works26_is _).mono ?_; rintro e w' ⟨_, rfl, rfl, hf⟩)
      go_ret
      exact ⟨_, rfl, rfl, hf⟩
    · have HT := Lib.hid (Turn_is (c := c) hx hp hcp (by omega))
      have HT2 := Lib.hid (fun (w : World) (f : Fr0 W w) => Turn26_is (c := c) (hx.fr0 f) (by omega))
      have HS := Lib.hid (fun (w : World) (f : Fr0 W w) => Simple_is (c := c) (hx.fr0 f) hp (by omega))
      have HS2 := Lib.hid (fun (w : World) (f : Fr0 W w) => Simple26_is (c := c) (hx.fr0 f) (by omega))
      have HC := Lib.hid (fun (w : World) (f : Fr0 W w) => Compare_is (c := c) (d := d) (hx.fr0 f) hp hcp (hy.fr0 f) hp2 hcp2 (by omega) (by omega))
      have HC2 := Lib.hid (fun (w : World) (f : Fr0 W w) => Compare26_is (c := c) (d := d) (hx.fr0 f) (hy.fr0 f) (by omega) (by omega))
      have hl := turnL_len xs
      have hl1 : (turnL xs).length ≤ 1000 := by omega
      clear hx hp hy hp2 hl
      generalize simpleC xs = s at HS HS2
      generalize cmpS (turnL xs) (turnL ys) = r at HC HC2
      generalize turnL xs = us at *
      unfold IListPost at HT HT2
      go_enter Try.func3, Try.ntmps3
      go_wp2_with (first
        | (go_at_call 8; refine (works26_is _).mono ?_; rintro e w' ⟨_, rfl, rfl, hf⟩)
        | (go_at_call 15; refine (HC2.out _ hF6).mono ?_; rintro e w7 ⟨_, rfl, rfl, hf7⟩)
        | (go_at_call 14; refine (HC.out _ hF5).mono ?_; rintro e w6 ⟨_, rfl, rfl, hf6⟩; have hF6 := hF5.trans0 hf6)
        | (go_at_call 13; refine (HS2.out _ hF4).mono ?_; rintro e w5 ⟨_, rfl, rfl, hf5⟩; have hF5 := hF4.trans0 hf5)
        | (go_at_call 12; refine (HS.out _ hF3).mono ?_; rintro e w4 ⟨_, rfl, rfl, hf4⟩; have hF4 := hF3.trans0 hf4)
        | (go_at_call 9; refine (SameO_is (own_fr0 ho1 hf2) ho2 (by omega)).mono ?_; rintro e w3 ⟨_, rfl, rfl, hf3⟩; have hF3 := (hf1.trans0 hf2).trans0 hf3)
        | (go_at_call 11; refine (HT2.out _ hf1).mono ?_; rintro e w2 ⟨v2, rfl, hf2, ho2⟩; obtain ⟨A2, c2, rfl⟩ := own_form ho2)
        | (go_at_call 10; refine (HT.out).mono ?_; rintro e w1 ⟨v1, rfl, hf1, ho1⟩; obtain ⟨A1, c1, rfl⟩ := own_form ho1))
      go_ret
      exact ⟨_, rfl, rfl, (hF6.trans0 hf7).trans0 hf⟩
end Go.Proofs.Ytjijoghbcbdohaa
