/- The document's labels. -/
import Derived.Test.YtjijoghbcbdohaaAfter
namespace Go.Proofs.Ytjijoghbcbdohaa
set_option linter.all false
open Go.RowKit
set_option maxRecDepth 100000

/-- The document's labels. -/
def labD (kind : Int) (xs : List Int) : Option (List Int) := afterC btM (fitsD kind) xs []
theorem Labels26_no {W : World} {A : Option Addr} {c : Nat} {xs : List Int} (h : IntsAt W A xs) (hsm : xs.length ≤ 1000) {kind : Int} (hr : labD kind xs = none) :
    Calls Try.prog 19 #[.int .i64 kind, .slice A xs.length c] W (Rets fun v w' => v = .tuple #[.slice none 0 0, .bool false] ∧ Fr0 W w') := by
  have H := Lib.hid (After_is kind xs.length h hsm (c := c) (B := none) (d := 0) (bs := []) ⟨by simp, .inl rfl⟩ (fun _ => ⟨rfl, rfl⟩) (by simp))
  rw [show (xs.drop ([] : List Int).length) = xs from rfl, show afterC btM (fitsD kind) xs [] = none from hr] at H
  unfold AfterPost at H
  clear h hr
  go_enter Try.func19, Try.ntmps19
  go_wp2_with (go_at_call 37; refine (H.out).mono ?_; rintro e w1 ⟨_, rfl, hf1, A3, n3, c3, rfl⟩)
  go_ret2
  exact ⟨_, rfl, rfl, hf1⟩
theorem Labels26_yes {W : World} {A : Option Addr} {c : Nat} {xs : List Int} (h : IntsAt W A xs) (hsm : xs.length ≤ 1000) {kind : Int} {l : List Int} (hr : labD kind xs = some l) :
    Calls Try.prog 19 #[.int .i64 kind, .slice A xs.length c] W (Rets fun v w' => Fr0 W w' ∧ ∃ B d, v = .tuple #[.slice B l.length d, .bool true] ∧ IntsAt w' B l) := by
  have H := Lib.hid (After_is kind xs.length h hsm (c := c) (B := none) (d := 0) (bs := []) ⟨by simp, .inl rfl⟩ (fun _ => ⟨rfl, rfl⟩) (by simp))
  rw [show (xs.drop ([] : List Int).length) = xs from rfl, show afterC btM (fitsD kind) xs [] = some l from hr] at H
  unfold AfterPost at H
  clear h hr
  go_enter Try.func19, Try.ntmps19
  go_wp2_with (go_at_call 37; refine (H.out).mono ?_; rintro e w1 ⟨_, rfl, hf1, A3, c3, rfl, hi3, hp3⟩)
  go_ret2
  exact ⟨_, rfl, hf1, A3, c3, rfl, hi3⟩
end Go.Proofs.Ytjijoghbcbdohaa
