/-
  No cell of these rows narrows 'for every input' (looked for: loops, veiled, ifaces, maps, wideKeys, modest, calm, conditions, laid).
  DERIVED. THE GIVEN ROWS OF THIS SEAT. 7 by the template 'for every input the law returns true; each argument reads behind the call as it read before'; 0 by the template 'total and deterministic' (their statements: YtekigojbkhjdbaaTotals.lean).
  GIVEN WITH THE SEED: the statements are not yours to turn. If you find one false, say at which input.
  Laid BY PROGRAM, IN A SANDBOX (cutbox-rows.mjs): the forced cells as the released guide's own fill.sh prints them over the translation cc61ebb7cc7bd1ca… (all of the seat's roots in one cut). By AI agents, Wed Nov 11 2026. No macro, syntax, notation, axiom, sorry.
-/
import Derived.Test.YtekigojbkhjdbaaChecked
import GoSem.Claim
import GoSem.ClaimJoined
import GoSem.ClaimMapViews
import Derived.JoinedTies
import Derived.KernelRfl
namespace Go.Proofs.Ytekigojbkhjdbaa
/- THE CELL 'sum', in the pinned program and in every row, IS THE sha256 OF THE DUMP (.gsa) THAT YtekigojbkhjdbaaProg.lean LOADS. Nothing in Lean hashes anything: it is a label: what it is worth is what the hold of that sum in a sandbox is worth. -/
noncomputable def Try.pinned : Pinned := { name := "ytekigojbkhjdbaa", sum := "cc61ebb7cc7bd1cad5098b0261382acd7316be502e876096072587f611c1cce7", checked := Try.checked }
namespace Rows
def none {H : Type} : Left H := { results := [], args := [] }

/-- 'coronerlaw05.SortedTexts': WHATEVER THE INPUT: true; the input reads as it did. -/
def sortedTextsSpec : ChangeSpec := { name := "sortedTexts", fn := fun _ => fun
  | [d1, d2] => { results := [.lit (.bool true)], args := [d1, d2] }
  | _ => none }
def sortedTextsRow : OpenClaim := { program := "ytekigojbkhjdbaa", sum := "cc61ebb7cc7bd1cad5098b0261382acd7316be502e876096072587f611c1cce7", func := "coroner/coronerlaw05.SortedTexts", spec := "sortedTexts", unfollowed := true, recurses := true, plainKeys := false, apart := false }
def SortedTextsSaid : Prop := sortedTextsRow.holds Try.pinned (OpenSpec.ofChange sortedTextsSpec)

/-- ITS FALSE NEIGHBOUR: 'it returns false'. Refute it at one input. -/
def sortedTextsWrong : ChangeSpec := { name := "sortedTexts", fn := fun _ => fun
  | [d1, d2] => { results := [.lit (.bool false)], args := [d1, d2] }
  | _ => none }
def SortedTextsWrongFalsely : Prop := sortedTextsRow.holds Try.pinned (OpenSpec.ofChange sortedTextsWrong)

/-- 'coronerlaw39.LocksPlays': WHATEVER THE INPUT: true; the input reads as it did. -/
def locksPlaysSpec : ChangeSpec := { name := "locksPlays", fn := fun _ => fun
  | [d1, d2, d3, d4] => { results := [.lit (.bool true)], args := [d1, d2, d3, d4] }
  | _ => none }
def locksPlaysRow : OpenClaim := { program := "ytekigojbkhjdbaa", sum := "cc61ebb7cc7bd1cad5098b0261382acd7316be502e876096072587f611c1cce7", func := "coroner/coronerlaw39.LocksPlays", spec := "locksPlays", recurses := true, plainKeys := false, apart := false }
def LocksPlaysSaid : Prop := locksPlaysRow.holds Try.pinned (OpenSpec.ofChange locksPlaysSpec)

/-- ITS FALSE NEIGHBOUR: 'it returns false'. Refute it at one input. -/
def locksPlaysWrong : ChangeSpec := { name := "locksPlays", fn := fun _ => fun
  | [d1, d2, d3, d4] => { results := [.lit (.bool false)], args := [d1, d2, d3, d4] }
  | _ => none }
def LocksPlaysWrongFalsely : Prop := locksPlaysRow.holds Try.pinned (OpenSpec.ofChange locksPlaysWrong)

/-- 'coronerlaw39.LocksAlone': WHATEVER THE INPUT: true; the input reads as it did. -/
def locksAloneSpec : ChangeSpec := { name := "locksAlone", fn := fun _ => fun
  | [d] => { results := [.lit (.bool true)], args := [d] }
  | _ => none }
def locksAloneRow : OpenClaim := { program := "ytekigojbkhjdbaa", sum := "cc61ebb7cc7bd1cad5098b0261382acd7316be502e876096072587f611c1cce7", func := "coroner/coronerlaw39.LocksAlone", spec := "locksAlone", recurses := true, plainKeys := false, apart := false }
def LocksAloneSaid : Prop := locksAloneRow.holds Try.pinned (OpenSpec.ofChange locksAloneSpec)

/-- ITS FALSE NEIGHBOUR: 'it returns false'. Refute it at one input. -/
def locksAloneWrong : ChangeSpec := { name := "locksAlone", fn := fun _ => fun
  | [d] => { results := [.lit (.bool false)], args := [d] }
  | _ => none }
def LocksAloneWrongFalsely : Prop := locksAloneRow.holds Try.pinned (OpenSpec.ofChange locksAloneWrong)

/-- 'coronerlaw39.LocksNone': WHATEVER THE INPUT: true; the input reads as it did. -/
def locksNoneSpec : ChangeSpec := { name := "locksNone", fn := fun _ => fun
  | [d1, d2, d3] => { results := [.lit (.bool true)], args := [d1, d2, d3] }
  | _ => none }
def locksNoneRow : OpenClaim := { program := "ytekigojbkhjdbaa", sum := "cc61ebb7cc7bd1cad5098b0261382acd7316be502e876096072587f611c1cce7", func := "coroner/coronerlaw39.LocksNone", spec := "locksNone", recurses := true, plainKeys := false, apart := false }
def LocksNoneSaid : Prop := locksNoneRow.holds Try.pinned (OpenSpec.ofChange locksNoneSpec)

/-- ITS FALSE NEIGHBOUR: 'it returns false'. Refute it at one input. -/
def locksNoneWrong : ChangeSpec := { name := "locksNone", fn := fun _ => fun
  | [d1, d2, d3] => { results := [.lit (.bool false)], args := [d1, d2, d3] }
  | _ => none }
def LocksNoneWrongFalsely : Prop := locksNoneRow.holds Try.pinned (OpenSpec.ofChange locksNoneWrong)

/-- 'coronerlaw40.StorePlays': WHATEVER THE INPUT: true; the input reads as it did. -/
def storePlaysSpec : ChangeSpec := { name := "storePlays", fn := fun _ => fun
  | [d1, d2, d3, d4] => { results := [.lit (.bool true)], args := [d1, d2, d3, d4] }
  | _ => none }
def storePlaysRow : OpenClaim := { program := "ytekigojbkhjdbaa", sum := "cc61ebb7cc7bd1cad5098b0261382acd7316be502e876096072587f611c1cce7", func := "coroner/coronerlaw40.StorePlays", spec := "storePlays", unfollowed := true, recurses := true, plainKeys := false, apart := false }
def StorePlaysSaid : Prop := storePlaysRow.holds Try.pinned (OpenSpec.ofChange storePlaysSpec)

/-- ITS FALSE NEIGHBOUR: 'it returns false'. Refute it at one input. -/
def storePlaysWrong : ChangeSpec := { name := "storePlays", fn := fun _ => fun
  | [d1, d2, d3, d4] => { results := [.lit (.bool false)], args := [d1, d2, d3, d4] }
  | _ => none }
def StorePlaysWrongFalsely : Prop := storePlaysRow.holds Try.pinned (OpenSpec.ofChange storePlaysWrong)

/-- 'coronerlaw40.StoreStays': WHATEVER THE INPUT: true; the input reads as it did. -/
def storeStaysSpec : ChangeSpec := { name := "storeStays", fn := fun _ => fun
  | [d1, d2, d3, d4] => { results := [.lit (.bool true)], args := [d1, d2, d3, d4] }
  | _ => none }
def storeStaysRow : OpenClaim := { program := "ytekigojbkhjdbaa", sum := "cc61ebb7cc7bd1cad5098b0261382acd7316be502e876096072587f611c1cce7", func := "coroner/coronerlaw40.StoreStays", spec := "storeStays", unfollowed := true, recurses := true, plainKeys := false, apart := false }
def StoreStaysSaid : Prop := storeStaysRow.holds Try.pinned (OpenSpec.ofChange storeStaysSpec)

/-- ITS FALSE NEIGHBOUR: 'it returns false'. Refute it at one input. -/
def storeStaysWrong : ChangeSpec := { name := "storeStays", fn := fun _ => fun
  | [d1, d2, d3, d4] => { results := [.lit (.bool false)], args := [d1, d2, d3, d4] }
  | _ => none }
def StoreStaysWrongFalsely : Prop := storeStaysRow.holds Try.pinned (OpenSpec.ofChange storeStaysWrong)

/-- 'coronerlaw40.StoreNone': WHATEVER THE INPUT: true; the input reads as it did. -/
def storeNoneSpec : ChangeSpec := { name := "storeNone", fn := fun _ => fun
  | [d1, d2, d3] => { results := [.lit (.bool true)], args := [d1, d2, d3] }
  | _ => none }
def storeNoneRow : OpenClaim := { program := "ytekigojbkhjdbaa", sum := "cc61ebb7cc7bd1cad5098b0261382acd7316be502e876096072587f611c1cce7", func := "coroner/coronerlaw40.StoreNone", spec := "storeNone", unfollowed := true, recurses := true, plainKeys := false, apart := false }
def StoreNoneSaid : Prop := storeNoneRow.holds Try.pinned (OpenSpec.ofChange storeNoneSpec)

/-- ITS FALSE NEIGHBOUR: 'it returns false'. Refute it at one input. -/
def storeNoneWrong : ChangeSpec := { name := "storeNone", fn := fun _ => fun
  | [d1, d2, d3] => { results := [.lit (.bool false)], args := [d1, d2, d3] }
  | _ => none }
def StoreNoneWrongFalsely : Prop := storeNoneRow.holds Try.pinned (OpenSpec.ofChange storeNoneWrong)

/- THE SECOND FORM. 'bulk': how many values and letters a reading holds, each counted each time it is reached (what is shared counts as often as it is met; a slice's spare places count too). A statement '..UptoSaid' is the law's where the arguments, and the package variables that the reading takes, are together of bulk at most 1048576: NARROWER than '..Said'. Prove '..Said' where nothing that the law and all that it calls make is longer than what came in: it says more and counts as full. Else prove '..UptoSaid'. A law counts once. -/
mutual
def uptoBulk {H : Type} : DataW H → Nat
  | .lit (.string bytes) => bytes.length + 1
  | .lit _ => 1
  | .nil => 1
  | .ptr d => uptoBulk d + 1
  | .slice elems spare => uptoBulkAll elems + uptoBulkAll spare + 1
  | .agg parts => uptoBulkAll parts + 1
  | .iface _ d => uptoBulk d + 1
  | .map entries => uptoBulkEntries entries + 1
  | .held _ => 1
def uptoBulkAll {H : Type} : List (DataW H) → Nat
  | [] => 0
  | d :: r => uptoBulk d + uptoBulkAll r
def uptoBulkEntries {H : Type} : List (Lit × DataW H) → Nat
  | [] => 0
  | x :: r => uptoBulkEntry x + uptoBulkEntries r
def uptoBulkEntry {H : Type} : Lit × DataW H → Nat
  | (.string bytes, d) => bytes.length + uptoBulk d + 1
  | (_, d) => uptoBulk d + 1
 end
def uptoSmall : (H : Type) → List (DataW H) → Bool := fun _ ds => decide (uptoBulkAll ds ≤ 1048576)
def OpenSpec.upto (s : _root_.Go.ChangeSpec) : _root_.Go.OpenSpec := { _root_.Go.OpenSpec.ofChange s with cond := some uptoSmall }

/-- 'coronerlaw05.SortedTexts', WHERE WHAT IT READS IS OF BULK AT MOST 1048576: true; the input reads as it did. -/
def sortedTextsUptoRow : OpenClaim := { program := "ytekigojbkhjdbaa", sum := "cc61ebb7cc7bd1cad5098b0261382acd7316be502e876096072587f611c1cce7", func := "coroner/coronerlaw05.SortedTexts", spec := "sortedTexts", unfollowed := true, recurses := true, plainKeys := false, apart := false, narrowed := true }
def SortedTextsUptoSaid : Prop := sortedTextsUptoRow.holds Try.pinned (OpenSpec.upto sortedTextsSpec)

/-- 'coronerlaw39.LocksPlays', WHERE WHAT IT READS IS OF BULK AT MOST 1048576: true; the input reads as it did. -/
def locksPlaysUptoRow : OpenClaim := { program := "ytekigojbkhjdbaa", sum := "cc61ebb7cc7bd1cad5098b0261382acd7316be502e876096072587f611c1cce7", func := "coroner/coronerlaw39.LocksPlays", spec := "locksPlays", recurses := true, plainKeys := false, apart := false, narrowed := true }
def LocksPlaysUptoSaid : Prop := locksPlaysUptoRow.holds Try.pinned (OpenSpec.upto locksPlaysSpec)

/-- 'coronerlaw39.LocksAlone', WHERE WHAT IT READS IS OF BULK AT MOST 1048576: true; the input reads as it did. -/
def locksAloneUptoRow : OpenClaim := { program := "ytekigojbkhjdbaa", sum := "cc61ebb7cc7bd1cad5098b0261382acd7316be502e876096072587f611c1cce7", func := "coroner/coronerlaw39.LocksAlone", spec := "locksAlone", recurses := true, plainKeys := false, apart := false, narrowed := true }
def LocksAloneUptoSaid : Prop := locksAloneUptoRow.holds Try.pinned (OpenSpec.upto locksAloneSpec)

/-- 'coronerlaw39.LocksNone', WHERE WHAT IT READS IS OF BULK AT MOST 1048576: true; the input reads as it did. -/
def locksNoneUptoRow : OpenClaim := { program := "ytekigojbkhjdbaa", sum := "cc61ebb7cc7bd1cad5098b0261382acd7316be502e876096072587f611c1cce7", func := "coroner/coronerlaw39.LocksNone", spec := "locksNone", recurses := true, plainKeys := false, apart := false, narrowed := true }
def LocksNoneUptoSaid : Prop := locksNoneUptoRow.holds Try.pinned (OpenSpec.upto locksNoneSpec)

/-- 'coronerlaw40.StorePlays', WHERE WHAT IT READS IS OF BULK AT MOST 1048576: true; the input reads as it did. -/
def storePlaysUptoRow : OpenClaim := { program := "ytekigojbkhjdbaa", sum := "cc61ebb7cc7bd1cad5098b0261382acd7316be502e876096072587f611c1cce7", func := "coroner/coronerlaw40.StorePlays", spec := "storePlays", unfollowed := true, recurses := true, plainKeys := false, apart := false, narrowed := true }
def StorePlaysUptoSaid : Prop := storePlaysUptoRow.holds Try.pinned (OpenSpec.upto storePlaysSpec)

/-- 'coronerlaw40.StoreStays', WHERE WHAT IT READS IS OF BULK AT MOST 1048576: true; the input reads as it did. -/
def storeStaysUptoRow : OpenClaim := { program := "ytekigojbkhjdbaa", sum := "cc61ebb7cc7bd1cad5098b0261382acd7316be502e876096072587f611c1cce7", func := "coroner/coronerlaw40.StoreStays", spec := "storeStays", unfollowed := true, recurses := true, plainKeys := false, apart := false, narrowed := true }
def StoreStaysUptoSaid : Prop := storeStaysUptoRow.holds Try.pinned (OpenSpec.upto storeStaysSpec)

/-- 'coronerlaw40.StoreNone', WHERE WHAT IT READS IS OF BULK AT MOST 1048576: true; the input reads as it did. -/
def storeNoneUptoRow : OpenClaim := { program := "ytekigojbkhjdbaa", sum := "cc61ebb7cc7bd1cad5098b0261382acd7316be502e876096072587f611c1cce7", func := "coroner/coronerlaw40.StoreNone", spec := "storeNone", unfollowed := true, recurses := true, plainKeys := false, apart := false, narrowed := true }
def StoreNoneUptoSaid : Prop := storeNoneUptoRow.holds Try.pinned (OpenSpec.upto storeNoneSpec)

end Rows
end Go.Proofs.Ytekigojbkhjdbaa
