/-
  No cell of these rows narrows 'for every input' (looked for: loops, veiled, ifaces, maps, wideKeys, modest, calm, conditions, laid).
  DERIVED. THE GIVEN ROWS OF THIS SEAT. 5 by the template 'for every input the law returns true; each argument reads behind the call as it read before'; 0 by the template 'total and deterministic' (their statements: YtjijoghbcbdohaaTotals.lean).
  GIVEN WITH THE SEED: the statements are not yours to turn. If you find one false, say at which input.
  Laid BY PROGRAM, IN A SANDBOX (cutbox-rows.mjs): the forced cells as the released guide's own fill.sh prints them over the translation 008c37a435b575c2… (all of the seat's roots in one cut). By AI agents, Wed Nov 11 2026. No macro, syntax, notation, axiom, sorry.
-/
import Derived.Test.YtjijoghbcbdohaaChecked
import GoSem.Claim
import GoSem.ClaimJoined
import GoSem.ClaimMapViews
import Derived.JoinedTies
import Derived.KernelRfl
namespace Go.Proofs.Ytjijoghbcbdohaa
/- THE CELL 'sum', in the pinned program and in every row, IS THE sha256 OF THE DUMP (.gsa) THAT YtjijoghbcbdohaaProg.lean LOADS. Nothing in Lean hashes anything: it is a label: what it is worth is what the hold of that sum in a sandbox is worth. -/
noncomputable def Try.pinned : Pinned := { name := "ytjijoghbcbdohaa", sum := "008c37a435b575c29430d8139a878f94a3454933b00ec0efc5fc34cf7610fefb", checked := Try.checked }
namespace Rows
def none {H : Type} : Left H := { results := [], args := [] }

/-- 'coronerlaw26.CycleTurns': WHATEVER THE INPUT: true; the input reads as it did. -/
def cycleTurnsSpec : ChangeSpec := { name := "cycleTurns", fn := fun _ => fun
  | [d1, d2] => { results := [.lit (.bool true)], args := [d1, d2] }
  | _ => none }
def cycleTurnsRow : OpenClaim := { program := "ytjijoghbcbdohaa", sum := "008c37a435b575c29430d8139a878f94a3454933b00ec0efc5fc34cf7610fefb", func := "coroner/coronerlaw26.CycleTurns", spec := "cycleTurns", unfollowed := true, recurses := true, apart := false }
def CycleTurnsSaid : Prop := cycleTurnsRow.holds Try.pinned (OpenSpec.ofChange cycleTurnsSpec)

/-- ITS FALSE NEIGHBOUR: 'it returns false'. Refute it at one input. -/
def cycleTurnsWrong : ChangeSpec := { name := "cycleTurns", fn := fun _ => fun
  | [d1, d2] => { results := [.lit (.bool false)], args := [d1, d2] }
  | _ => none }
def CycleTurnsWrongFalsely : Prop := cycleTurnsRow.holds Try.pinned (OpenSpec.ofChange cycleTurnsWrong)

/-- 'coronerlaw26.CycleOne': WHATEVER THE INPUT: true; the input reads as it did. -/
def cycleOneSpec : ChangeSpec := { name := "cycleOne", fn := fun _ => fun
  | [d1, d2] => { results := [.lit (.bool true)], args := [d1, d2] }
  | _ => none }
def cycleOneRow : OpenClaim := { program := "ytjijoghbcbdohaa", sum := "008c37a435b575c29430d8139a878f94a3454933b00ec0efc5fc34cf7610fefb", func := "coroner/coronerlaw26.CycleOne", spec := "cycleOne", unfollowed := true, recurses := true, apart := false }
def CycleOneSaid : Prop := cycleOneRow.holds Try.pinned (OpenSpec.ofChange cycleOneSpec)

/-- ITS FALSE NEIGHBOUR: 'it returns false'. Refute it at one input. -/
def cycleOneWrong : ChangeSpec := { name := "cycleOne", fn := fun _ => fun
  | [d1, d2] => { results := [.lit (.bool false)], args := [d1, d2] }
  | _ => none }
def CycleOneWrongFalsely : Prop := cycleOneRow.holds Try.pinned (OpenSpec.ofChange cycleOneWrong)

/-- 'coronerlaw26.CycleFits': WHATEVER THE INPUT: true; the input reads as it did. -/
def cycleFitsSpec : ChangeSpec := { name := "cycleFits", fn := fun _ => fun
  | [d1, d2] => { results := [.lit (.bool true)], args := [d1, d2] }
  | _ => none }
def cycleFitsRow : OpenClaim := { program := "ytjijoghbcbdohaa", sum := "008c37a435b575c29430d8139a878f94a3454933b00ec0efc5fc34cf7610fefb", func := "coroner/coronerlaw26.CycleFits", spec := "cycleFits", unfollowed := true, recurses := true, apart := false }
def CycleFitsSaid : Prop := cycleFitsRow.holds Try.pinned (OpenSpec.ofChange cycleFitsSpec)

/-- ITS FALSE NEIGHBOUR: 'it returns false'. Refute it at one input. -/
def cycleFitsWrong : ChangeSpec := { name := "cycleFits", fn := fun _ => fun
  | [d1, d2] => { results := [.lit (.bool false)], args := [d1, d2] }
  | _ => none }
def CycleFitsWrongFalsely : Prop := cycleFitsRow.holds Try.pinned (OpenSpec.ofChange cycleFitsWrong)

/-- 'coronerlaw26.CycleLabels': WHATEVER THE INPUT: true; the input reads as it did. -/
def cycleLabelsSpec : ChangeSpec := { name := "cycleLabels", fn := fun _ => fun
  | [d1, d2] => { results := [.lit (.bool true)], args := [d1, d2] }
  | _ => none }
def cycleLabelsRow : OpenClaim := { program := "ytjijoghbcbdohaa", sum := "008c37a435b575c29430d8139a878f94a3454933b00ec0efc5fc34cf7610fefb", func := "coroner/coronerlaw26.CycleLabels", spec := "cycleLabels", unfollowed := true, recurses := true, apart := false }
def CycleLabelsSaid : Prop := cycleLabelsRow.holds Try.pinned (OpenSpec.ofChange cycleLabelsSpec)

/-- ITS FALSE NEIGHBOUR: 'it returns false'. Refute it at one input. -/
def cycleLabelsWrong : ChangeSpec := { name := "cycleLabels", fn := fun _ => fun
  | [d1, d2] => { results := [.lit (.bool false)], args := [d1, d2] }
  | _ => none }
def CycleLabelsWrongFalsely : Prop := cycleLabelsRow.holds Try.pinned (OpenSpec.ofChange cycleLabelsWrong)

/-- 'coronerlaw26.CycleChosen': WHATEVER THE INPUT: true; the input reads as it did. -/
def cycleChosenSpec : ChangeSpec := { name := "cycleChosen", fn := fun _ => fun
  | [d1, d2] => { results := [.lit (.bool true)], args := [d1, d2] }
  | _ => none }
def cycleChosenRow : OpenClaim := { program := "ytjijoghbcbdohaa", sum := "008c37a435b575c29430d8139a878f94a3454933b00ec0efc5fc34cf7610fefb", func := "coroner/coronerlaw26.CycleChosen", spec := "cycleChosen", unfollowed := true, recurses := true, apart := false }
def CycleChosenSaid : Prop := cycleChosenRow.holds Try.pinned (OpenSpec.ofChange cycleChosenSpec)

/-- ITS FALSE NEIGHBOUR: 'it returns false'. Refute it at one input. -/
def cycleChosenWrong : ChangeSpec := { name := "cycleChosen", fn := fun _ => fun
  | [d1, d2] => { results := [.lit (.bool false)], args := [d1, d2] }
  | _ => none }
def CycleChosenWrongFalsely : Prop := cycleChosenRow.holds Try.pinned (OpenSpec.ofChange cycleChosenWrong)

/- THE SECOND FORM. 'bulk': how many values and letters a reading holds, each counted each time it is reached (what is shared counts as often as it is met; a slice's spare places count too). A statement '..UptoSaid' is the law's where the arguments, and the package variables that the reading takes, are together of bulk at most 1048576: NARROWER than '..Said'. Prove '..Said' where nothing that the law and all that it calls make is longer than what came in: it says more and counts as full. Else prove '..UptoSaid'. A law counts once. -/
mutual
def uptoBulk {H : Type} : DataW H → Nat
  | .lit (.string bytes) => bytes.length + 1
  | .lit _ => 1
  | .nil => 1
  | .ptr d => uptoBulk d + 1
  | .slice elems spare => uptoBulkAll elems + uptoBulkAll spare + 1
  | .agg parts => uptoBulkAll parts + 1
  | .iface _ d => uptoBulk d + 1
  | .map entries => uptoBulkEntries entries + 1
  | .held _ => 1
def uptoBulkAll {H : Type} : List (DataW H) → Nat
  | [] => 0
  | d :: r => uptoBulk d + uptoBulkAll r
def uptoBulkEntries {H : Type} : List (Lit × DataW H) → Nat
  | [] => 0
  | x :: r => uptoBulkEntry x + uptoBulkEntries r
def uptoBulkEntry {H : Type} : Lit × DataW H → Nat
  | (.string bytes, d) => bytes.length + uptoBulk d + 1
  | (_, d) => uptoBulk d + 1
 end
def uptoSmall : (H : Type) → List (DataW H) → Bool := fun _ ds => decide (uptoBulkAll ds ≤ 1048576)
def OpenSpec.upto (s : _root_.Go.ChangeSpec) : _root_.Go.OpenSpec := { _root_.Go.OpenSpec.ofChange s with cond := some uptoSmall }

/-- 'coronerlaw26.CycleTurns', WHERE WHAT IT READS IS OF BULK AT MOST 1048576: true; the input reads as it did. -/
def cycleTurnsUptoRow : OpenClaim := { program := "ytjijoghbcbdohaa", sum := "008c37a435b575c29430d8139a878f94a3454933b00ec0efc5fc34cf7610fefb", func := "coroner/coronerlaw26.CycleTurns", spec := "cycleTurns", unfollowed := true, recurses := true, apart := false, narrowed := true }
def CycleTurnsUptoSaid : Prop := cycleTurnsUptoRow.holds Try.pinned (OpenSpec.upto cycleTurnsSpec)

/-- 'coronerlaw26.CycleOne', WHERE WHAT IT READS IS OF BULK AT MOST 1048576: true; the input reads as it did. -/
def cycleOneUptoRow : OpenClaim := { program := "ytjijoghbcbdohaa", sum := "008c37a435b575c29430d8139a878f94a3454933b00ec0efc5fc34cf7610fefb", func := "coroner/coronerlaw26.CycleOne", spec := "cycleOne", unfollowed := true, recurses := true, apart := false, narrowed := true }
def CycleOneUptoSaid : Prop := cycleOneUptoRow.holds Try.pinned (OpenSpec.upto cycleOneSpec)

/-- 'coronerlaw26.CycleFits', WHERE WHAT IT READS IS OF BULK AT MOST 1048576: true; the input reads as it did. -/
def cycleFitsUptoRow : OpenClaim := { program := "ytjijoghbcbdohaa", sum := "008c37a435b575c29430d8139a878f94a3454933b00ec0efc5fc34cf7610fefb", func := "coroner/coronerlaw26.CycleFits", spec := "cycleFits", unfollowed := true, recurses := true, apart := false, narrowed := true }
def CycleFitsUptoSaid : Prop := cycleFitsUptoRow.holds Try.pinned (OpenSpec.upto cycleFitsSpec)

/-- 'coronerlaw26.CycleLabels', WHERE WHAT IT READS IS OF BULK AT MOST 1048576: true; the input reads as it did. -/
def cycleLabelsUptoRow : OpenClaim := { program := "ytjijoghbcbdohaa", sum := "008c37a435b575c29430d8139a878f94a3454933b00ec0efc5fc34cf7610fefb", func := "coroner/coronerlaw26.CycleLabels", spec := "cycleLabels", unfollowed := true, recurses := true, apart := false, narrowed := true }
def CycleLabelsUptoSaid : Prop := cycleLabelsUptoRow.holds Try.pinned (OpenSpec.upto cycleLabelsSpec)

/-- 'coronerlaw26.CycleChosen', WHERE WHAT IT READS IS OF BULK AT MOST 1048576: true; the input reads as it did. -/
def cycleChosenUptoRow : OpenClaim := { program := "ytjijoghbcbdohaa", sum := "008c37a435b575c29430d8139a878f94a3454933b00ec0efc5fc34cf7610fefb", func := "coroner/coronerlaw26.CycleChosen", spec := "cycleChosen", unfollowed := true, recurses := true, apart := false, narrowed := true }
def CycleChosenUptoSaid : Prop := cycleChosenUptoRow.holds Try.pinned (OpenSpec.upto cycleChosenSpec)

end Rows
end Go.Proofs.Ytjijoghbcbdohaa
