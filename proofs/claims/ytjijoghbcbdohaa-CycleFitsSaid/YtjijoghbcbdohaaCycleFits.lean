/- CycleFits walked. -/
import Derived.Test.YtjijoghbcbdohaaWorks26
namespace Go.Proofs.Ytjijoghbcbdohaa
set_option linter.all false
open Go.RowKit
set_option maxRecDepth 100000

set_option maxHeartbeats 4000000 in
theorem CycleFits_is {W : World} {kind : Int} (hw : (Lit.int .i64 kind).wf = true) {A : Option Addr} {c : Nat} {xs : List Int} (hx : IntsAt W A xs) (hp : Plain A xs.length c) :
    Calls Try.prog 5 #[.int .i64 kind, .slice A xs.length c] W (Rets (SamePost true W)) := by
  by_cases hbig : (300 : Int) < (xs.length : Int)
  · go_enter Try.func5, Try.ntmps5
    go_wp2_with (go_at_call 8; refine (works26_is _).mono ?_; rintro e w' ⟨_, rfl, rfl, hf⟩)
    go_ret
    exact ⟨_, rfl, rfl, hf⟩
  · have HA := Lib.hid (Fits_is (cp := c) hw hx (by omega))
    have HB := Lib.hid (fun (w : World) (f : Fr0 W w) => Fits26_is (c := c) (hx.fr0 f) (by omega) kind)
    rw [fits_same kind (by omega)] at HA
    clear hx hp
    generalize fitsD kind xs = r at HA HB
    go_enter Try.func5, Try.ntmps5
    go_wp2_with (first
      | (go_at_call 8; refine (works26_is _).mono ?_; rintro e w' ⟨_, rfl, rfl, hf⟩)
      | (go_at_call 17; refine (HB.out _ hf1).mono ?_; rintro e w2 ⟨rfl, rfl⟩)
      | (go_at_call 16; refine (HA.out).mono ?_; rintro e w1 ⟨_, rfl, rfl, hf1⟩))
    all_goals go_ret
    all_goals exact ⟨_, rfl, rfl, hf1.trans0 hf⟩
end Go.Proofs.Ytjijoghbcbdohaa
