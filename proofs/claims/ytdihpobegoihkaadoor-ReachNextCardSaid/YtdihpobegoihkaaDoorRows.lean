/-
  NARROWER THAN 'FOR EVERY INPUT', by the rows' own cells (each row's printed sentence says how): ClosureRows: laid · ClosureClosed: laid · ClosureParts: laid · ClosureNone: laid · ReachSets: laid · ReachNext: laid · ReachClosed: laid · ReachBoth: laid · ReachNone: laid · ClosureExists: laid.
  DERIVED. THE GIVEN ROWS OF THIS SEAT. 10 by the template 'for every input the law returns true; each argument reads behind the call as it read before'; 0 by the template 'total and deterministic' (their statements: YtdihpobegoihkaaDoorTotals.lean).
  GIVEN WITH THE SEED: the statements are not yours to turn. If you find one false, say at which input.
  Laid BY PROGRAM, IN A SANDBOX (cutbox-rows.mjs): the forced cells as the released guide's own fill.sh prints them over the translation 0dc8b9553d2fcfce… (all of the seat's roots in one cut). By AI agents, Wed Nov 11 2026. No macro, syntax, notation, axiom, sorry.
-/
import Derived.Test.YtdihpobegoihkaaDoorChecked
import GoSem.Claim
import GoSem.ClaimJoined
import GoSem.ClaimMapViews
import Derived.JoinedTies
import Derived.KernelRfl
namespace Go.Proofs.YtdihpobegoihkaaDoor
/- THE CELL 'sum', in the pinned program and in every row, IS THE sha256 OF THE DUMP (.gsa) THAT YtdihpobegoihkaaDoorProg.lean LOADS. Nothing in Lean hashes anything: it is a label: what it is worth is what the hold of that sum in a sandbox is worth. -/
noncomputable def Tryd.pinned : Pinned := { name := "ytdihpobegoihkaadoor", sum := "0dc8b9553d2fcfce86593f2bdd13763e59a373a1575783a06b9a4ef8d7e6c68c", checked := Tryd.checked }
namespace Rows
def none {H : Type} : Left H := { results := [], args := [] }

/- WHAT THE LISTED PACKAGE-LEVEL VARIABLES READ AS WHEN THE CALL BEGINS. Each datum BY PROGRAM (the guide's laid-datum.mjs) off the statement by which the dump's own 'gosem.cut.vars' lays the variable. In a bare row this is a premise. The card (YtdihpobegoihkaaDoorCards.lean) ties it to the program's text. -/
def laid_math_bits_deBruijn64tab {H : Type} : DataW H := .agg [.lit (.int .u8 0), .lit (.int .u8 1), .lit (.int .u8 56), .lit (.int .u8 2), .lit (.int .u8 57), .lit (.int .u8 49), .lit (.int .u8 28), .lit (.int .u8 3), .lit (.int .u8 61), .lit (.int .u8 58), .lit (.int .u8 42), .lit (.int .u8 50), .lit (.int .u8 38), .lit (.int .u8 29), .lit (.int .u8 17), .lit (.int .u8 4), .lit (.int .u8 62), .lit (.int .u8 47), .lit (.int .u8 59), .lit (.int .u8 36), .lit (.int .u8 45), .lit (.int .u8 43), .lit (.int .u8 51), .lit (.int .u8 22), .lit (.int .u8 53), .lit (.int .u8 39), .lit (.int .u8 33), .lit (.int .u8 30), .lit (.int .u8 24), .lit (.int .u8 18), .lit (.int .u8 12), .lit (.int .u8 5), .lit (.int .u8 63), .lit (.int .u8 55), .lit (.int .u8 48), .lit (.int .u8 27), .lit (.int .u8 60), .lit (.int .u8 41), .lit (.int .u8 37), .lit (.int .u8 16), .lit (.int .u8 46), .lit (.int .u8 35), .lit (.int .u8 44), .lit (.int .u8 21), .lit (.int .u8 52), .lit (.int .u8 32), .lit (.int .u8 23), .lit (.int .u8 11), .lit (.int .u8 54), .lit (.int .u8 26), .lit (.int .u8 40), .lit (.int .u8 15), .lit (.int .u8 34), .lit (.int .u8 20), .lit (.int .u8 31), .lit (.int .u8 10), .lit (.int .u8 25), .lit (.int .u8 14), .lit (.int .u8 19), .lit (.int .u8 9), .lit (.int .u8 13), .lit (.int .u8 8), .lit (.int .u8 7), .lit (.int .u8 6)]

/-- 'coronerlaw36.ClosureRows': WHATEVER THE INPUT: true; the input reads as it did. -/
def closureRowsSpec : ChangeSpec := { name := "closureRows", fn := fun _ => fun
  | [d1, d2, d3, d4, d5] => { results := [.lit (.bool true)], args := [d1, d2, d3, d4, d5] }
  | _ => none }
def closureRowsRow : OpenClaim := { program := "ytdihpobegoihkaadoor", sum := "0dc8b9553d2fcfce86593f2bdd13763e59a373a1575783a06b9a4ef8d7e6c68c", func := "coroner/coronerlaw36.ClosureRows", spec := "closureRows", unfollowed := true, recurses := true, named := ["math/bits.deBruijn64tab"], plainKeys := false, apart := false, laid := [("math/bits.deBruijn64tab", laid_math_bits_deBruijn64tab)] }
def ClosureRowsSaid : Prop := closureRowsRow.holds Tryd.pinned (OpenSpec.ofChange closureRowsSpec)

/-- ITS FALSE NEIGHBOUR: 'it returns false'. Refute it at one input. -/
def closureRowsWrong : ChangeSpec := { name := "closureRows", fn := fun _ => fun
  | [d1, d2, d3, d4, d5] => { results := [.lit (.bool false)], args := [d1, d2, d3, d4, d5] }
  | _ => none }
def ClosureRowsWrongFalsely : Prop := closureRowsRow.holds Tryd.pinned (OpenSpec.ofChange closureRowsWrong)

/-- 'coronerlaw36.ClosureClosed': WHATEVER THE INPUT: true; the input reads as it did. -/
def closureClosedSpec : ChangeSpec := { name := "closureClosed", fn := fun _ => fun
  | [d1, d2, d3] => { results := [.lit (.bool true)], args := [d1, d2, d3] }
  | _ => none }
def closureClosedRow : OpenClaim := { program := "ytdihpobegoihkaadoor", sum := "0dc8b9553d2fcfce86593f2bdd13763e59a373a1575783a06b9a4ef8d7e6c68c", func := "coroner/coronerlaw36.ClosureClosed", spec := "closureClosed", unfollowed := true, recurses := true, named := ["math/bits.deBruijn64tab"], plainKeys := false, apart := false, laid := [("math/bits.deBruijn64tab", laid_math_bits_deBruijn64tab)] }
def ClosureClosedSaid : Prop := closureClosedRow.holds Tryd.pinned (OpenSpec.ofChange closureClosedSpec)

/-- ITS FALSE NEIGHBOUR: 'it returns false'. Refute it at one input. -/
def closureClosedWrong : ChangeSpec := { name := "closureClosed", fn := fun _ => fun
  | [d1, d2, d3] => { results := [.lit (.bool false)], args := [d1, d2, d3] }
  | _ => none }
def ClosureClosedWrongFalsely : Prop := closureClosedRow.holds Tryd.pinned (OpenSpec.ofChange closureClosedWrong)

/-- 'coronerlaw36.ClosureParts': WHATEVER THE INPUT: true; the input reads as it did. -/
def closurePartsSpec : ChangeSpec := { name := "closureParts", fn := fun _ => fun
  | [d1, d2, d3] => { results := [.lit (.bool true)], args := [d1, d2, d3] }
  | _ => none }
def closurePartsRow : OpenClaim := { program := "ytdihpobegoihkaadoor", sum := "0dc8b9553d2fcfce86593f2bdd13763e59a373a1575783a06b9a4ef8d7e6c68c", func := "coroner/coronerlaw36.ClosureParts", spec := "closureParts", unfollowed := true, recurses := true, named := ["math/bits.deBruijn64tab"], plainKeys := false, apart := false, laid := [("math/bits.deBruijn64tab", laid_math_bits_deBruijn64tab)] }
def ClosurePartsSaid : Prop := closurePartsRow.holds Tryd.pinned (OpenSpec.ofChange closurePartsSpec)

/-- ITS FALSE NEIGHBOUR: 'it returns false'. Refute it at one input. -/
def closurePartsWrong : ChangeSpec := { name := "closureParts", fn := fun _ => fun
  | [d1, d2, d3] => { results := [.lit (.bool false)], args := [d1, d2, d3] }
  | _ => none }
def ClosurePartsWrongFalsely : Prop := closurePartsRow.holds Tryd.pinned (OpenSpec.ofChange closurePartsWrong)

/-- 'coronerlaw36.ClosureNone': WHATEVER THE INPUT: true; the input reads as it did. -/
def closureNoneSpec : ChangeSpec := { name := "closureNone", fn := fun _ => fun
  | [d1, d2, d3] => { results := [.lit (.bool true)], args := [d1, d2, d3] }
  | _ => none }
def closureNoneRow : OpenClaim := { program := "ytdihpobegoihkaadoor", sum := "0dc8b9553d2fcfce86593f2bdd13763e59a373a1575783a06b9a4ef8d7e6c68c", func := "coroner/coronerlaw36.ClosureNone", spec := "closureNone", unfollowed := true, recurses := true, named := ["math/bits.deBruijn64tab"], plainKeys := false, apart := false, laid := [("math/bits.deBruijn64tab", laid_math_bits_deBruijn64tab)] }
def ClosureNoneSaid : Prop := closureNoneRow.holds Tryd.pinned (OpenSpec.ofChange closureNoneSpec)

/-- ITS FALSE NEIGHBOUR: 'it returns false'. Refute it at one input. -/
def closureNoneWrong : ChangeSpec := { name := "closureNone", fn := fun _ => fun
  | [d1, d2, d3] => { results := [.lit (.bool false)], args := [d1, d2, d3] }
  | _ => none }
def ClosureNoneWrongFalsely : Prop := closureNoneRow.holds Tryd.pinned (OpenSpec.ofChange closureNoneWrong)

/-- 'coronerlaw21.ReachSets': WHATEVER THE INPUT: true; the input reads as it did. -/
def reachSetsSpec : ChangeSpec := { name := "reachSets", fn := fun _ => fun
  | [d1, d2, d3, d4, d5] => { results := [.lit (.bool true)], args := [d1, d2, d3, d4, d5] }
  | _ => none }
def reachSetsRow : OpenClaim := { program := "ytdihpobegoihkaadoor", sum := "0dc8b9553d2fcfce86593f2bdd13763e59a373a1575783a06b9a4ef8d7e6c68c", func := "coroner/coronerlaw21.ReachSets", spec := "reachSets", unfollowed := true, recurses := true, named := ["math/bits.deBruijn64tab"], plainKeys := false, apart := false, laid := [("math/bits.deBruijn64tab", laid_math_bits_deBruijn64tab)] }
def ReachSetsSaid : Prop := reachSetsRow.holds Tryd.pinned (OpenSpec.ofChange reachSetsSpec)

/-- ITS FALSE NEIGHBOUR: 'it returns false'. Refute it at one input. -/
def reachSetsWrong : ChangeSpec := { name := "reachSets", fn := fun _ => fun
  | [d1, d2, d3, d4, d5] => { results := [.lit (.bool false)], args := [d1, d2, d3, d4, d5] }
  | _ => none }
def ReachSetsWrongFalsely : Prop := reachSetsRow.holds Tryd.pinned (OpenSpec.ofChange reachSetsWrong)

/-- 'coronerlaw21.ReachNext': WHATEVER THE INPUT: true; the input reads as it did. -/
def reachNextSpec : ChangeSpec := { name := "reachNext", fn := fun _ => fun
  | [d1, d2, d3, d4, d5, d6, d7] => { results := [.lit (.bool true)], args := [d1, d2, d3, d4, d5, d6, d7] }
  | _ => none }
def reachNextRow : OpenClaim := { program := "ytdihpobegoihkaadoor", sum := "0dc8b9553d2fcfce86593f2bdd13763e59a373a1575783a06b9a4ef8d7e6c68c", func := "coroner/coronerlaw21.ReachNext", spec := "reachNext", unfollowed := true, recurses := true, named := ["math/bits.deBruijn64tab"], plainKeys := false, apart := false, laid := [("math/bits.deBruijn64tab", laid_math_bits_deBruijn64tab)] }
def ReachNextSaid : Prop := reachNextRow.holds Tryd.pinned (OpenSpec.ofChange reachNextSpec)

/-- ITS FALSE NEIGHBOUR: 'it returns false'. Refute it at one input. -/
def reachNextWrong : ChangeSpec := { name := "reachNext", fn := fun _ => fun
  | [d1, d2, d3, d4, d5, d6, d7] => { results := [.lit (.bool false)], args := [d1, d2, d3, d4, d5, d6, d7] }
  | _ => none }
def ReachNextWrongFalsely : Prop := reachNextRow.holds Tryd.pinned (OpenSpec.ofChange reachNextWrong)

/-- 'coronerlaw21.ReachClosed': WHATEVER THE INPUT: true; the input reads as it did. -/
def reachClosedSpec : ChangeSpec := { name := "reachClosed", fn := fun _ => fun
  | [d1, d2, d3, d4, d5] => { results := [.lit (.bool true)], args := [d1, d2, d3, d4, d5] }
  | _ => none }
def reachClosedRow : OpenClaim := { program := "ytdihpobegoihkaadoor", sum := "0dc8b9553d2fcfce86593f2bdd13763e59a373a1575783a06b9a4ef8d7e6c68c", func := "coroner/coronerlaw21.ReachClosed", spec := "reachClosed", unfollowed := true, recurses := true, named := ["math/bits.deBruijn64tab"], plainKeys := false, apart := false, laid := [("math/bits.deBruijn64tab", laid_math_bits_deBruijn64tab)] }
def ReachClosedSaid : Prop := reachClosedRow.holds Tryd.pinned (OpenSpec.ofChange reachClosedSpec)

/-- ITS FALSE NEIGHBOUR: 'it returns false'. Refute it at one input. -/
def reachClosedWrong : ChangeSpec := { name := "reachClosed", fn := fun _ => fun
  | [d1, d2, d3, d4, d5] => { results := [.lit (.bool false)], args := [d1, d2, d3, d4, d5] }
  | _ => none }
def ReachClosedWrongFalsely : Prop := reachClosedRow.holds Tryd.pinned (OpenSpec.ofChange reachClosedWrong)

/-- 'coronerlaw21.ReachBoth': WHATEVER THE INPUT: true; the input reads as it did. -/
def reachBothSpec : ChangeSpec := { name := "reachBoth", fn := fun _ => fun
  | [d1, d2, d3, d4, d5, d6] => { results := [.lit (.bool true)], args := [d1, d2, d3, d4, d5, d6] }
  | _ => none }
def reachBothRow : OpenClaim := { program := "ytdihpobegoihkaadoor", sum := "0dc8b9553d2fcfce86593f2bdd13763e59a373a1575783a06b9a4ef8d7e6c68c", func := "coroner/coronerlaw21.ReachBoth", spec := "reachBoth", unfollowed := true, recurses := true, named := ["math/bits.deBruijn64tab"], plainKeys := false, apart := false, laid := [("math/bits.deBruijn64tab", laid_math_bits_deBruijn64tab)] }
def ReachBothSaid : Prop := reachBothRow.holds Tryd.pinned (OpenSpec.ofChange reachBothSpec)

/-- ITS FALSE NEIGHBOUR: 'it returns false'. Refute it at one input. -/
def reachBothWrong : ChangeSpec := { name := "reachBoth", fn := fun _ => fun
  | [d1, d2, d3, d4, d5, d6] => { results := [.lit (.bool false)], args := [d1, d2, d3, d4, d5, d6] }
  | _ => none }
def ReachBothWrongFalsely : Prop := reachBothRow.holds Tryd.pinned (OpenSpec.ofChange reachBothWrong)

/-- 'coronerlaw21.ReachNone': WHATEVER THE INPUT: true; the input reads as it did. -/
def reachNoneSpec : ChangeSpec := { name := "reachNone", fn := fun _ => fun
  | [d1, d2, d3] => { results := [.lit (.bool true)], args := [d1, d2, d3] }
  | _ => none }
def reachNoneRow : OpenClaim := { program := "ytdihpobegoihkaadoor", sum := "0dc8b9553d2fcfce86593f2bdd13763e59a373a1575783a06b9a4ef8d7e6c68c", func := "coroner/coronerlaw21.ReachNone", spec := "reachNone", unfollowed := true, recurses := true, named := ["math/bits.deBruijn64tab"], plainKeys := false, apart := false, laid := [("math/bits.deBruijn64tab", laid_math_bits_deBruijn64tab)] }
def ReachNoneSaid : Prop := reachNoneRow.holds Tryd.pinned (OpenSpec.ofChange reachNoneSpec)

/-- ITS FALSE NEIGHBOUR: 'it returns false'. Refute it at one input. -/
def reachNoneWrong : ChangeSpec := { name := "reachNone", fn := fun _ => fun
  | [d1, d2, d3] => { results := [.lit (.bool false)], args := [d1, d2, d3] }
  | _ => none }
def ReachNoneWrongFalsely : Prop := reachNoneRow.holds Tryd.pinned (OpenSpec.ofChange reachNoneWrong)

/-- 'coronerlaw36.ClosureExists': WHATEVER THE INPUT: true; the input reads as it did. -/
def closureExistsSpec : ChangeSpec := { name := "closureExists", fn := fun _ => fun
  | [d1, d2, d3] => { results := [.lit (.bool true)], args := [d1, d2, d3] }
  | _ => none }
def closureExistsRow : OpenClaim := { program := "ytdihpobegoihkaadoor", sum := "0dc8b9553d2fcfce86593f2bdd13763e59a373a1575783a06b9a4ef8d7e6c68c", func := "coroner/coronerlaw36.ClosureExists", spec := "closureExists", unfollowed := true, recurses := true, named := ["math/bits.deBruijn64tab"], plainKeys := false, apart := false, laid := [("math/bits.deBruijn64tab", laid_math_bits_deBruijn64tab)] }
def ClosureExistsSaid : Prop := closureExistsRow.holds Tryd.pinned (OpenSpec.ofChange closureExistsSpec)

/-- ITS FALSE NEIGHBOUR: 'it returns false'. Refute it at one input. -/
def closureExistsWrong : ChangeSpec := { name := "closureExists", fn := fun _ => fun
  | [d1, d2, d3] => { results := [.lit (.bool false)], args := [d1, d2, d3] }
  | _ => none }
def ClosureExistsWrongFalsely : Prop := closureExistsRow.holds Tryd.pinned (OpenSpec.ofChange closureExistsWrong)

/- THE SECOND FORM. 'bulk': how many values and letters a reading holds, each counted each time it is reached (what is shared counts as often as it is met; a slice's spare places count too). A statement '..UptoSaid' is the law's where the arguments, and the package variables that the reading takes, are together of bulk at most 1048576: NARROWER than '..Said'. Prove '..Said' where nothing that the law and all that it calls make is longer than what came in: it says more and counts as full. Else prove '..UptoSaid'. A law counts once. -/
mutual
def uptoBulk {H : Type} : DataW H → Nat
  | .lit (.string bytes) => bytes.length + 1
  | .lit _ => 1
  | .nil => 1
  | .ptr d => uptoBulk d + 1
  | .slice elems spare => uptoBulkAll elems + uptoBulkAll spare + 1
  | .agg parts => uptoBulkAll parts + 1
  | .iface _ d => uptoBulk d + 1
  | .map entries => uptoBulkEntries entries + 1
  | .held _ => 1
def uptoBulkAll {H : Type} : List (DataW H) → Nat
  | [] => 0
  | d :: r => uptoBulk d + uptoBulkAll r
def uptoBulkEntries {H : Type} : List (Lit × DataW H) → Nat
  | [] => 0
  | x :: r => uptoBulkEntry x + uptoBulkEntries r
def uptoBulkEntry {H : Type} : Lit × DataW H → Nat
  | (.string bytes, d) => bytes.length + uptoBulk d + 1
  | (_, d) => uptoBulk d + 1
 end
def uptoSmall : (H : Type) → List (DataW H) → Bool := fun _ ds => decide (uptoBulkAll ds ≤ 1048576)
def OpenSpec.upto (s : _root_.Go.ChangeSpec) : _root_.Go.OpenSpec := { _root_.Go.OpenSpec.ofChange s with cond := some uptoSmall }

/-- 'coronerlaw36.ClosureRows', WHERE WHAT IT READS IS OF BULK AT MOST 1048576: true; the input reads as it did. -/
def closureRowsUptoRow : OpenClaim := { program := "ytdihpobegoihkaadoor", sum := "0dc8b9553d2fcfce86593f2bdd13763e59a373a1575783a06b9a4ef8d7e6c68c", func := "coroner/coronerlaw36.ClosureRows", spec := "closureRows", unfollowed := true, recurses := true, named := ["math/bits.deBruijn64tab"], plainKeys := false, apart := false, laid := [("math/bits.deBruijn64tab", laid_math_bits_deBruijn64tab)], narrowed := true }
def ClosureRowsUptoSaid : Prop := closureRowsUptoRow.holds Tryd.pinned (OpenSpec.upto closureRowsSpec)

/-- 'coronerlaw36.ClosureClosed', WHERE WHAT IT READS IS OF BULK AT MOST 1048576: true; the input reads as it did. -/
def closureClosedUptoRow : OpenClaim := { program := "ytdihpobegoihkaadoor", sum := "0dc8b9553d2fcfce86593f2bdd13763e59a373a1575783a06b9a4ef8d7e6c68c", func := "coroner/coronerlaw36.ClosureClosed", spec := "closureClosed", unfollowed := true, recurses := true, named := ["math/bits.deBruijn64tab"], plainKeys := false, apart := false, laid := [("math/bits.deBruijn64tab", laid_math_bits_deBruijn64tab)], narrowed := true }
def ClosureClosedUptoSaid : Prop := closureClosedUptoRow.holds Tryd.pinned (OpenSpec.upto closureClosedSpec)

/-- 'coronerlaw36.ClosureParts', WHERE WHAT IT READS IS OF BULK AT MOST 1048576: true; the input reads as it did. -/
def closurePartsUptoRow : OpenClaim := { program := "ytdihpobegoihkaadoor", sum := "0dc8b9553d2fcfce86593f2bdd13763e59a373a1575783a06b9a4ef8d7e6c68c", func := "coroner/coronerlaw36.ClosureParts", spec := "closureParts", unfollowed := true, recurses := true, named := ["math/bits.deBruijn64tab"], plainKeys := false, apart := false, laid := [("math/bits.deBruijn64tab", laid_math_bits_deBruijn64tab)], narrowed := true }
def ClosurePartsUptoSaid : Prop := closurePartsUptoRow.holds Tryd.pinned (OpenSpec.upto closurePartsSpec)

/-- 'coronerlaw36.ClosureNone', WHERE WHAT IT READS IS OF BULK AT MOST 1048576: true; the input reads as it did. -/
def closureNoneUptoRow : OpenClaim := { program := "ytdihpobegoihkaadoor", sum := "0dc8b9553d2fcfce86593f2bdd13763e59a373a1575783a06b9a4ef8d7e6c68c", func := "coroner/coronerlaw36.ClosureNone", spec := "closureNone", unfollowed := true, recurses := true, named := ["math/bits.deBruijn64tab"], plainKeys := false, apart := false, laid := [("math/bits.deBruijn64tab", laid_math_bits_deBruijn64tab)], narrowed := true }
def ClosureNoneUptoSaid : Prop := closureNoneUptoRow.holds Tryd.pinned (OpenSpec.upto closureNoneSpec)

/-- 'coronerlaw21.ReachSets', WHERE WHAT IT READS IS OF BULK AT MOST 1048576: true; the input reads as it did. -/
def reachSetsUptoRow : OpenClaim := { program := "ytdihpobegoihkaadoor", sum := "0dc8b9553d2fcfce86593f2bdd13763e59a373a1575783a06b9a4ef8d7e6c68c", func := "coroner/coronerlaw21.ReachSets", spec := "reachSets", unfollowed := true, recurses := true, named := ["math/bits.deBruijn64tab"], plainKeys := false, apart := false, laid := [("math/bits.deBruijn64tab", laid_math_bits_deBruijn64tab)], narrowed := true }
def ReachSetsUptoSaid : Prop := reachSetsUptoRow.holds Tryd.pinned (OpenSpec.upto reachSetsSpec)

/-- 'coronerlaw21.ReachNext', WHERE WHAT IT READS IS OF BULK AT MOST 1048576: true; the input reads as it did. -/
def reachNextUptoRow : OpenClaim := { program := "ytdihpobegoihkaadoor", sum := "0dc8b9553d2fcfce86593f2bdd13763e59a373a1575783a06b9a4ef8d7e6c68c", func := "coroner/coronerlaw21.ReachNext", spec := "reachNext", unfollowed := true, recurses := true, named := ["math/bits.deBruijn64tab"], plainKeys := false, apart := false, laid := [("math/bits.deBruijn64tab", laid_math_bits_deBruijn64tab)], narrowed := true }
def ReachNextUptoSaid : Prop := reachNextUptoRow.holds Tryd.pinned (OpenSpec.upto reachNextSpec)

/-- 'coronerlaw21.ReachClosed', WHERE WHAT IT READS IS OF BULK AT MOST 1048576: true; the input reads as it did. -/
def reachClosedUptoRow : OpenClaim := { program := "ytdihpobegoihkaadoor", sum := "0dc8b9553d2fcfce86593f2bdd13763e59a373a1575783a06b9a4ef8d7e6c68c", func := "coroner/coronerlaw21.ReachClosed", spec := "reachClosed", unfollowed := true, recurses := true, named := ["math/bits.deBruijn64tab"], plainKeys := false, apart := false, laid := [("math/bits.deBruijn64tab", laid_math_bits_deBruijn64tab)], narrowed := true }
def ReachClosedUptoSaid : Prop := reachClosedUptoRow.holds Tryd.pinned (OpenSpec.upto reachClosedSpec)

/-- 'coronerlaw21.ReachBoth', WHERE WHAT IT READS IS OF BULK AT MOST 1048576: true; the input reads as it did. -/
def reachBothUptoRow : OpenClaim := { program := "ytdihpobegoihkaadoor", sum := "0dc8b9553d2fcfce86593f2bdd13763e59a373a1575783a06b9a4ef8d7e6c68c", func := "coroner/coronerlaw21.ReachBoth", spec := "reachBoth", unfollowed := true, recurses := true, named := ["math/bits.deBruijn64tab"], plainKeys := false, apart := false, laid := [("math/bits.deBruijn64tab", laid_math_bits_deBruijn64tab)], narrowed := true }
def ReachBothUptoSaid : Prop := reachBothUptoRow.holds Tryd.pinned (OpenSpec.upto reachBothSpec)

/-- 'coronerlaw21.ReachNone', WHERE WHAT IT READS IS OF BULK AT MOST 1048576: true; the input reads as it did. -/
def reachNoneUptoRow : OpenClaim := { program := "ytdihpobegoihkaadoor", sum := "0dc8b9553d2fcfce86593f2bdd13763e59a373a1575783a06b9a4ef8d7e6c68c", func := "coroner/coronerlaw21.ReachNone", spec := "reachNone", unfollowed := true, recurses := true, named := ["math/bits.deBruijn64tab"], plainKeys := false, apart := false, laid := [("math/bits.deBruijn64tab", laid_math_bits_deBruijn64tab)], narrowed := true }
def ReachNoneUptoSaid : Prop := reachNoneUptoRow.holds Tryd.pinned (OpenSpec.upto reachNoneSpec)

/-- 'coronerlaw36.ClosureExists', WHERE WHAT IT READS IS OF BULK AT MOST 1048576: true; the input reads as it did. -/
def closureExistsUptoRow : OpenClaim := { program := "ytdihpobegoihkaadoor", sum := "0dc8b9553d2fcfce86593f2bdd13763e59a373a1575783a06b9a4ef8d7e6c68c", func := "coroner/coronerlaw36.ClosureExists", spec := "closureExists", unfollowed := true, recurses := true, named := ["math/bits.deBruijn64tab"], plainKeys := false, apart := false, laid := [("math/bits.deBruijn64tab", laid_math_bits_deBruijn64tab)], narrowed := true }
def ClosureExistsUptoSaid : Prop := closureExistsUptoRow.holds Tryd.pinned (OpenSpec.upto closureExistsSpec)

end Rows
end Go.Proofs.YtdihpobegoihkaaDoor
