/- The document's cycles: turned, simple; how often a number stands in a row. -/
import Derived.Test.YtidpmbbkpclccaaCyPure
import Derived.Test.YtidpmbbkpclccaaOf
namespace Go.Proofs.Ytidpmbbkpclccaa
set_option linter.all false
open Go.RowKit
set_option maxRecDepth 100000

theorem cell_blk {w : World} {b o : Nat} {v : Value} (h : w.cell? ⟨b, o, none⟩ = some v) : b < w.heap.size := by
  by_cases hl : b < w.heap.size
  · exact hl
  · rw [World.cell?, Array.getElem?_eq_none (by simpa using hl)] at h; cases h
theorem tmod_nat (a b : Nat) : Int.tmod (a : Int) (b : Int) = ((a % b : Nat) : Int) := by
  rw [Int.tmod_eq_emod_of_nonneg (by omega)]; omega
/-- Simple: more than one, and none twice. -/
def simpleC (c : List Int) : Bool := decide (1 < c.length) && decide ((ofI c).length = c.length)
end Go.Proofs.Ytidpmbbkpclccaa
