/-
  DERIVED. GIVEN WITH THE SEED: THE CARDS: each row of YtdcjfpjpboafnaaDoorRows.lean that lists a variable, with what it lists TIED to the program's text (the seventh form; the later family's looks); each row that meets fmt, with fmt's text TOLD by the authors' own Lean function (tested against real Go, not proved from fmt's source: count such statements apart). THE CARD IS WHAT COUNTS. Prove the row's statement (the work); the ties are given (YtdcjfpjpboafnaaDoorTie.lean); close each card by the builder's one call (the guide's Derived/Test/ToyasCard.lean, 'card_holds'). Laid BY PROGRAM, IN A SANDBOX (cutbox-door.mjs). By AI agents, Wed Nov 11 2026. No macro, syntax, notation, axiom, sorry.
-/
import Derived.Test.YtdcjfpjpboafnaaDoorRows
import GoSem.ClaimSeven
namespace Go.Proofs.YtdcjfpjpboafnaaDoor
namespace Rows

/-- THE TIED CARD OF 'coronerlaw25.WalkRules'. -/
def walkRulesCard : Claim7 := { stood := { row := walkRulesRow, standIns := [], harness := (true, "71d39b2ba4442d903216cc04b42017879100ccb281d978807ba133304568b58e"), looks := false }, kinds := [], alts := [], laidByText := true, laidKinds := [.data], laidTests := true, laidLooks := .later }
def WalkRulesCardSaid : Prop := Claim7.holds Tryd.pinned (.plain (OpenSpec.ofChange walkRulesSpec)) walkRulesCard

/-- THE TIED CARD OF 'coronerlaw25.WalkFar'. -/
def walkFarCard : Claim7 := { stood := { row := walkFarRow, standIns := [], harness := (true, "71d39b2ba4442d903216cc04b42017879100ccb281d978807ba133304568b58e"), looks := false }, kinds := [], alts := [], laidByText := true, laidKinds := [.data], laidTests := true, laidLooks := .later }
def WalkFarCardSaid : Prop := Claim7.holds Tryd.pinned (.plain (OpenSpec.ofChange walkFarSpec)) walkFarCard

/-- THE TIED CARD OF 'coronerlaw25.WalkLeast'. -/
def walkLeastCard : Claim7 := { stood := { row := walkLeastRow, standIns := [], harness := (true, "71d39b2ba4442d903216cc04b42017879100ccb281d978807ba133304568b58e"), looks := false }, kinds := [], alts := [], laidByText := true, laidKinds := [.data], laidTests := true, laidLooks := .later }
def WalkLeastCardSaid : Prop := Claim7.holds Tryd.pinned (.plain (OpenSpec.ofChange walkLeastSpec)) walkLeastCard

/-- THE TIED CARD OF 'coronerlaw25.WalkFits'. -/
def walkFitsCard : Claim7 := { stood := { row := walkFitsRow, standIns := [], harness := (true, "71d39b2ba4442d903216cc04b42017879100ccb281d978807ba133304568b58e"), looks := false }, kinds := [], alts := [], laidByText := true, laidKinds := [.data], laidTests := true, laidLooks := .later }
def WalkFitsCardSaid : Prop := Claim7.holds Tryd.pinned (.plain (OpenSpec.ofChange walkFitsSpec)) walkFitsCard

/-- THE SECOND FORM's CARD OF 'coronerlaw25.WalkRules'. -/
def walkRulesUptoCard : Claim7 := { stood := { row := walkRulesUptoRow, standIns := [], harness := (true, "71d39b2ba4442d903216cc04b42017879100ccb281d978807ba133304568b58e"), looks := false }, kinds := [], alts := [], laidByText := true, laidKinds := [.data], laidTests := true, laidLooks := .later }
def WalkRulesUptoCardSaid : Prop := Claim7.holds Tryd.pinned (.plain (OpenSpec.upto walkRulesSpec)) walkRulesUptoCard

/-- THE SECOND FORM's CARD OF 'coronerlaw25.WalkFar'. -/
def walkFarUptoCard : Claim7 := { stood := { row := walkFarUptoRow, standIns := [], harness := (true, "71d39b2ba4442d903216cc04b42017879100ccb281d978807ba133304568b58e"), looks := false }, kinds := [], alts := [], laidByText := true, laidKinds := [.data], laidTests := true, laidLooks := .later }
def WalkFarUptoCardSaid : Prop := Claim7.holds Tryd.pinned (.plain (OpenSpec.upto walkFarSpec)) walkFarUptoCard

/-- THE SECOND FORM's CARD OF 'coronerlaw25.WalkLeast'. -/
def walkLeastUptoCard : Claim7 := { stood := { row := walkLeastUptoRow, standIns := [], harness := (true, "71d39b2ba4442d903216cc04b42017879100ccb281d978807ba133304568b58e"), looks := false }, kinds := [], alts := [], laidByText := true, laidKinds := [.data], laidTests := true, laidLooks := .later }
def WalkLeastUptoCardSaid : Prop := Claim7.holds Tryd.pinned (.plain (OpenSpec.upto walkLeastSpec)) walkLeastUptoCard

/-- THE SECOND FORM's CARD OF 'coronerlaw25.WalkFits'. -/
def walkFitsUptoCard : Claim7 := { stood := { row := walkFitsUptoRow, standIns := [], harness := (true, "71d39b2ba4442d903216cc04b42017879100ccb281d978807ba133304568b58e"), looks := false }, kinds := [], alts := [], laidByText := true, laidKinds := [.data], laidTests := true, laidLooks := .later }
def WalkFitsUptoCardSaid : Prop := Claim7.holds Tryd.pinned (.plain (OpenSpec.upto walkFitsSpec)) walkFitsUptoCard
end Rows
end Go.Proofs.YtdcjfpjpboafnaaDoor
