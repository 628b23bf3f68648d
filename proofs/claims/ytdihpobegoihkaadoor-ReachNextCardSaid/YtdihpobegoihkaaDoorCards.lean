/-
  DERIVED. GIVEN WITH THE SEED: THE CARDS: each row of YtdihpobegoihkaaDoorRows.lean that lists a variable, with what it lists TIED to the program's text (the seventh form; the later family's looks); each row that meets fmt, with fmt's text TOLD by the authors' own Lean function (tested against real Go, not proved from fmt's source: count such statements apart). THE CARD IS WHAT COUNTS. Prove the row's statement (the work); the ties are given (YtdihpobegoihkaaDoorTie.lean); close each card by the builder's one call (the guide's Derived/Test/ToyasCard.lean, 'card_holds'). Laid BY PROGRAM, IN A SANDBOX (cutbox-door.mjs). By AI agents, Wed Nov 11 2026. No macro, syntax, notation, axiom, sorry.
-/
import Derived.Test.YtdihpobegoihkaaDoorRows
import GoSem.ClaimSeven
namespace Go.Proofs.YtdihpobegoihkaaDoor
namespace Rows

/-- THE TIED CARD OF 'coronerlaw36.ClosureRows'. -/
def closureRowsCard : Claim7 := { stood := { row := closureRowsRow, standIns := [], harness := (true, "0eb9bd938cbf30c577ecde3cd7104d6f2502d71404c5f9437840fe34ef1b2746"), looks := false }, kinds := [], alts := [], laidByText := true, laidKinds := [.data], laidTests := true, laidLooks := .later }
def ClosureRowsCardSaid : Prop := Claim7.holds Tryd.pinned (.plain (OpenSpec.ofChange closureRowsSpec)) closureRowsCard

/-- THE TIED CARD OF 'coronerlaw36.ClosureClosed'. -/
def closureClosedCard : Claim7 := { stood := { row := closureClosedRow, standIns := [], harness := (true, "0eb9bd938cbf30c577ecde3cd7104d6f2502d71404c5f9437840fe34ef1b2746"), looks := false }, kinds := [], alts := [], laidByText := true, laidKinds := [.data], laidTests := true, laidLooks := .later }
def ClosureClosedCardSaid : Prop := Claim7.holds Tryd.pinned (.plain (OpenSpec.ofChange closureClosedSpec)) closureClosedCard

/-- THE TIED CARD OF 'coronerlaw36.ClosureParts'. -/
def closurePartsCard : Claim7 := { stood := { row := closurePartsRow, standIns := [], harness := (true, "0eb9bd938cbf30c577ecde3cd7104d6f2502d71404c5f9437840fe34ef1b2746"), looks := false }, kinds := [], alts := [], laidByText := true, laidKinds := [.data], laidTests := true, laidLooks := .later }
def ClosurePartsCardSaid : Prop := Claim7.holds Tryd.pinned (.plain (OpenSpec.ofChange closurePartsSpec)) closurePartsCard

/-- THE TIED CARD OF 'coronerlaw36.ClosureNone'. -/
def closureNoneCard : Claim7 := { stood := { row := closureNoneRow, standIns := [], harness := (true, "0eb9bd938cbf30c577ecde3cd7104d6f2502d71404c5f9437840fe34ef1b2746"), looks := false }, kinds := [], alts := [], laidByText := true, laidKinds := [.data], laidTests := true, laidLooks := .later }
def ClosureNoneCardSaid : Prop := Claim7.holds Tryd.pinned (.plain (OpenSpec.ofChange closureNoneSpec)) closureNoneCard

/-- THE TIED CARD OF 'coronerlaw21.ReachSets'. -/
def reachSetsCard : Claim7 := { stood := { row := reachSetsRow, standIns := [], harness := (true, "0eb9bd938cbf30c577ecde3cd7104d6f2502d71404c5f9437840fe34ef1b2746"), looks := false }, kinds := [], alts := [], laidByText := true, laidKinds := [.data], laidTests := true, laidLooks := .later }
def ReachSetsCardSaid : Prop := Claim7.holds Tryd.pinned (.plain (OpenSpec.ofChange reachSetsSpec)) reachSetsCard

/-- THE TIED CARD OF 'coronerlaw21.ReachNext'. -/
def reachNextCard : Claim7 := { stood := { row := reachNextRow, standIns := [], harness := (true, "0eb9bd938cbf30c577ecde3cd7104d6f2502d71404c5f9437840fe34ef1b2746"), looks := false }, kinds := [], alts := [], laidByText := true, laidKinds := [.data], laidTests := true, laidLooks := .later }
def ReachNextCardSaid : Prop := Claim7.holds Tryd.pinned (.plain (OpenSpec.ofChange reachNextSpec)) reachNextCard

/-- THE TIED CARD OF 'coronerlaw21.ReachClosed'. -/
def reachClosedCard : Claim7 := { stood := { row := reachClosedRow, standIns := [], harness := (true, "0eb9bd938cbf30c577ecde3cd7104d6f2502d71404c5f9437840fe34ef1b2746"), looks := false }, kinds := [], alts := [], laidByText := true, laidKinds := [.data], laidTests := true, laidLooks := .later }
def ReachClosedCardSaid : Prop := Claim7.holds Tryd.pinned (.plain (OpenSpec.ofChange reachClosedSpec)) reachClosedCard

/-- THE TIED CARD OF 'coronerlaw21.ReachBoth'. -/
def reachBothCard : Claim7 := { stood := { row := reachBothRow, standIns := [], harness := (true, "0eb9bd938cbf30c577ecde3cd7104d6f2502d71404c5f9437840fe34ef1b2746"), looks := false }, kinds := [], alts := [], laidByText := true, laidKinds := [.data], laidTests := true, laidLooks := .later }
def ReachBothCardSaid : Prop := Claim7.holds Tryd.pinned (.plain (OpenSpec.ofChange reachBothSpec)) reachBothCard

/-- THE TIED CARD OF 'coronerlaw21.ReachNone'. -/
def reachNoneCard : Claim7 := { stood := { row := reachNoneRow, standIns := [], harness := (true, "0eb9bd938cbf30c577ecde3cd7104d6f2502d71404c5f9437840fe34ef1b2746"), looks := false }, kinds := [], alts := [], laidByText := true, laidKinds := [.data], laidTests := true, laidLooks := .later }
def ReachNoneCardSaid : Prop := Claim7.holds Tryd.pinned (.plain (OpenSpec.ofChange reachNoneSpec)) reachNoneCard

/-- THE TIED CARD OF 'coronerlaw36.ClosureExists'. -/
def closureExistsCard : Claim7 := { stood := { row := closureExistsRow, standIns := [], harness := (true, "0eb9bd938cbf30c577ecde3cd7104d6f2502d71404c5f9437840fe34ef1b2746"), looks := false }, kinds := [], alts := [], laidByText := true, laidKinds := [.data], laidTests := true, laidLooks := .later }
def ClosureExistsCardSaid : Prop := Claim7.holds Tryd.pinned (.plain (OpenSpec.ofChange closureExistsSpec)) closureExistsCard

/-- THE SECOND FORM's CARD OF 'coronerlaw36.ClosureRows'. -/
def closureRowsUptoCard : Claim7 := { stood := { row := closureRowsUptoRow, standIns := [], harness := (true, "0eb9bd938cbf30c577ecde3cd7104d6f2502d71404c5f9437840fe34ef1b2746"), looks := false }, kinds := [], alts := [], laidByText := true, laidKinds := [.data], laidTests := true, laidLooks := .later }
def ClosureRowsUptoCardSaid : Prop := Claim7.holds Tryd.pinned (.plain (OpenSpec.upto closureRowsSpec)) closureRowsUptoCard

/-- THE SECOND FORM's CARD OF 'coronerlaw36.ClosureClosed'. -/
def closureClosedUptoCard : Claim7 := { stood := { row := closureClosedUptoRow, standIns := [], harness := (true, "0eb9bd938cbf30c577ecde3cd7104d6f2502d71404c5f9437840fe34ef1b2746"), looks := false }, kinds := [], alts := [], laidByText := true, laidKinds := [.data], laidTests := true, laidLooks := .later }
def ClosureClosedUptoCardSaid : Prop := Claim7.holds Tryd.pinned (.plain (OpenSpec.upto closureClosedSpec)) closureClosedUptoCard

/-- THE SECOND FORM's CARD OF 'coronerlaw36.ClosureParts'. -/
def closurePartsUptoCard : Claim7 := { stood := { row := closurePartsUptoRow, standIns := [], harness := (true, "0eb9bd938cbf30c577ecde3cd7104d6f2502d71404c5f9437840fe34ef1b2746"), looks := false }, kinds := [], alts := [], laidByText := true, laidKinds := [.data], laidTests := true, laidLooks := .later }
def ClosurePartsUptoCardSaid : Prop := Claim7.holds Tryd.pinned (.plain (OpenSpec.upto closurePartsSpec)) closurePartsUptoCard

/-- THE SECOND FORM's CARD OF 'coronerlaw36.ClosureNone'. -/
def closureNoneUptoCard : Claim7 := { stood := { row := closureNoneUptoRow, standIns := [], harness := (true, "0eb9bd938cbf30c577ecde3cd7104d6f2502d71404c5f9437840fe34ef1b2746"), looks := false }, kinds := [], alts := [], laidByText := true, laidKinds := [.data], laidTests := true, laidLooks := .later }
def ClosureNoneUptoCardSaid : Prop := Claim7.holds Tryd.pinned (.plain (OpenSpec.upto closureNoneSpec)) closureNoneUptoCard

/-- THE SECOND FORM's CARD OF 'coronerlaw21.ReachSets'. -/
def reachSetsUptoCard : Claim7 := { stood := { row := reachSetsUptoRow, standIns := [], harness := (true, "0eb9bd938cbf30c577ecde3cd7104d6f2502d71404c5f9437840fe34ef1b2746"), looks := false }, kinds := [], alts := [], laidByText := true, laidKinds := [.data], laidTests := true, laidLooks := .later }
def ReachSetsUptoCardSaid : Prop := Claim7.holds Tryd.pinned (.plain (OpenSpec.upto reachSetsSpec)) reachSetsUptoCard

/-- THE SECOND FORM's CARD OF 'coronerlaw21.ReachNext'. -/
def reachNextUptoCard : Claim7 := { stood := { row := reachNextUptoRow, standIns := [], harness := (true, "0eb9bd938cbf30c577ecde3cd7104d6f2502d71404c5f9437840fe34ef1b2746"), looks := false }, kinds := [], alts := [], laidByText := true, laidKinds := [.data], laidTests := true, laidLooks := .later }
def ReachNextUptoCardSaid : Prop := Claim7.holds Tryd.pinned (.plain (OpenSpec.upto reachNextSpec)) reachNextUptoCard

/-- THE SECOND FORM's CARD OF 'coronerlaw21.ReachClosed'. -/
def reachClosedUptoCard : Claim7 := { stood := { row := reachClosedUptoRow, standIns := [], harness := (true, "0eb9bd938cbf30c577ecde3cd7104d6f2502d71404c5f9437840fe34ef1b2746"), looks := false }, kinds := [], alts := [], laidByText := true, laidKinds := [.data], laidTests := true, laidLooks := .later }
def ReachClosedUptoCardSaid : Prop := Claim7.holds Tryd.pinned (.plain (OpenSpec.upto reachClosedSpec)) reachClosedUptoCard

/-- THE SECOND FORM's CARD OF 'coronerlaw21.ReachBoth'. -/
def reachBothUptoCard : Claim7 := { stood := { row := reachBothUptoRow, standIns := [], harness := (true, "0eb9bd938cbf30c577ecde3cd7104d6f2502d71404c5f9437840fe34ef1b2746"), looks := false }, kinds := [], alts := [], laidByText := true, laidKinds := [.data], laidTests := true, laidLooks := .later }
def ReachBothUptoCardSaid : Prop := Claim7.holds Tryd.pinned (.plain (OpenSpec.upto reachBothSpec)) reachBothUptoCard

/-- THE SECOND FORM's CARD OF 'coronerlaw21.ReachNone'. -/
def reachNoneUptoCard : Claim7 := { stood := { row := reachNoneUptoRow, standIns := [], harness := (true, "0eb9bd938cbf30c577ecde3cd7104d6f2502d71404c5f9437840fe34ef1b2746"), looks := false }, kinds := [], alts := [], laidByText := true, laidKinds := [.data], laidTests := true, laidLooks := .later }
def ReachNoneUptoCardSaid : Prop := Claim7.holds Tryd.pinned (.plain (OpenSpec.upto reachNoneSpec)) reachNoneUptoCard

/-- THE SECOND FORM's CARD OF 'coronerlaw36.ClosureExists'. -/
def closureExistsUptoCard : Claim7 := { stood := { row := closureExistsUptoRow, standIns := [], harness := (true, "0eb9bd938cbf30c577ecde3cd7104d6f2502d71404c5f9437840fe34ef1b2746"), looks := false }, kinds := [], alts := [], laidByText := true, laidKinds := [.data], laidTests := true, laidLooks := .later }
def ClosureExistsUptoCardSaid : Prop := Claim7.holds Tryd.pinned (.plain (OpenSpec.upto closureExistsSpec)) closureExistsUptoCard
end Rows
end Go.Proofs.YtdihpobegoihkaaDoor
