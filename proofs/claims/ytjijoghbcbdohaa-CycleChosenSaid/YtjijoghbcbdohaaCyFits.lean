/- The document's Fits. -/
import Derived.Test.YtjijoghbcbdohaaCyRef
namespace Go.Proofs.Ytjijoghbcbdohaa
set_option linter.all false
open Go.RowKit
set_option maxRecDepth 100000

/-- Do labels fit a kind, by how many there are of each? -/
def fitsV (kind : Int) (n ww wr rw : Nat) : Bool :=
  decide (2 ≤ n) && decide (ww + wr + rw = n) && (if kind = 6 then decide (wr + rw = 0) else if kind = 9 then decide (rw = 0) && decide (0 < wr) else if kind = 10 then decide (rw = 1) else if kind = 11 then decide (0 < rw) else false)
def fitsD (kind : Int) (l : List Int) : Bool := fitsV kind l.length (l.countP (· == 1)) (l.countP (· == 2)) (l.countP (· == 4))
set_option maxHeartbeats 2000000 in
theorem Fits26_is {W : World} {A : Option Addr} {c : Nat} {xs : List Int} (h : IntsAt W A xs) (hsm : xs.length ≤ 100000) (kind : Int) :
    Calls Try.prog 17 #[.int .i64 kind, .slice A xs.length c] W fun e w' => e = .returned (.bool (fitsD kind xs)) ∧ W = w' := by
  have H1 := Lib.hid (count26_is (c := c) h (by omega) 1)
  have H2 := Lib.hid (count26_is (c := c) h (by omega) 2)
  have H4 := Lib.hid (count26_is (c := c) h (by omega) 4)
  have l1 : xs.countP (· == 1) ≤ xs.length := List.countP_le_length
  have l2 : xs.countP (· == 2) ≤ xs.length := List.countP_le_length
  have l4 : xs.countP (· == 4) ≤ xs.length := List.countP_le_length
  unfold fitsD
  generalize xs.countP (· == 1) = ww at H1 l1 ⊢
  generalize xs.countP (· == 2) = wr at H2 l2 ⊢
  generalize xs.countP (· == 4) = rw' at H4 l4 ⊢
  generalize hr : fitsV kind xs.length ww wr rw' = r
  have HR := Lib.hid hr
  clear h hr
  have b1 : (ww : Int) ≤ 100000 := by omega
  have b2 : (wr : Int) ≤ 100000 := by omega
  have b4 : (rw' : Int) ≤ 100000 := by omega
  go_enter Try.func17, Try.ntmps17
  go_wp2_with (first
    | (go_at_call 34; (with_reducible refine (H1.out).mono ?_); rintro e w' ⟨rfl, rfl⟩)
    | (go_at_call 34; (with_reducible refine (H2.out).mono ?_); rintro e w' ⟨rfl, rfl⟩)
    | (go_at_call 34; (with_reducible refine (H4.out).mono ?_); rintro e w' ⟨rfl, rfl⟩))
  all_goals (go_ret; refine ⟨?_, rfl⟩; rw [← HR.out]; refine congrArg (fun b => Ending.returned (Value.bool b)) (show _ = fitsV _ _ _ _ _ from ?_); clear H1 H2 H4 HR; simp only [fitsV]; rw [Bool.eq_iff_iff]; simp_all; try omega)
end Go.Proofs.Ytjijoghbcbdohaa
