/- After, Lab26, in one text. -/
import Derived.Test.YtidpmbbkpclccaaCyFits
import Derived.Test.YtidpmbbkpclccaaCyBits
import Derived.Test.YtidpmbbkpclccaaAppRow
namespace Go.Proofs.Ytidpmbbkpclccaa
set_option linter.all false
open Go.RowKit
set_option maxRecDepth 100000

/-- What is told: labels, in a row, or that there are none. -/
def AfterPost (W : World) (r : Option (List Int)) (v : Value) (w' : World) : Prop := Fr0 W w' ∧ match r with
  | none => ∃ A n c, v = .tuple #[.slice A n c, .bool false]
  | some l => ∃ A c, v = .tuple #[.slice A l.length c, .bool true] ∧ IntsAt w' A l ∧ Plain A l.length c
/-- One branch of the search. -/
def brC (kind m : Int) (ms b : List Int) (x : Int) : Option (List Int) := if btM m x = true then afterC btM (fitsD kind) ms (b ++ [x]) else none
/-- What is left of the search from a label on. -/
def remC (kind m : Int) (ms b : List Int) (x : Int) : Option (List Int) :=
  if x = 1 then (((brC kind m ms b 1).or (brC kind m ms b 2)).or (brC kind m ms b 4)) else if x = 2 then ((brC kind m ms b 2).or (brC kind m ms b 4)) else if x = 4 then brC kind m ms b 4 else none
theorem rem_one (kind m : Int) (ms b : List Int) : afterC btM (fitsD kind) (m :: ms) b = remC kind m ms b 1 := rfl
theorem rem_no {kind m : Int} {ms b : List Int} {x : Int} (hx : x = 1 ∨ x = 2 ∨ x = 4) (h : brC kind m ms b x = none) : remC kind m ms b x = remC kind m ms b (2 * x) := by
  rcases hx with rfl | rfl | rfl
  · simp [remC, h]
  · simp [remC, h]
  · simp [remC, h]
theorem rem_yes {kind m : Int} {ms b l : List Int} {x : Int} (hx : x = 1 ∨ x = 2 ∨ x = 4) (h : brC kind m ms b x = some l) : remC kind m ms b x = some l := by
  rcases hx with rfl | rfl | rfl
  · simp [remC, h]
  · simp [remC, h]
  · simp [remC, h]
theorem drop_cons_I (xs : List Int) (k : Nat) (h : k < xs.length) : xs.drop k = xs.getD k 0 :: xs.drop (k + 1) := by
  rw [List.drop_eq_getElem_cons h, List.getD_eq_getElem?_getD, List.getElem?_eq_getElem h]; rfl
end Go.Proofs.Ytidpmbbkpclccaa
namespace Go.Proofs.Ytidpmbbkpclccaa
set_option linter.all false
open Go.RowKit
set_option maxRecDepth 100000

/-- The document's labels. -/
def labD (kind : Int) (xs : List Int) : Option (List Int) := afterC btM (fitsD kind) xs []
end Go.Proofs.Ytidpmbbkpclccaa
