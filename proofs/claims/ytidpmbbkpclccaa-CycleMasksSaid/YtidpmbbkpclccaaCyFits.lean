/- The document's Fits. -/
import Derived.Test.YtidpmbbkpclccaaCyRef
namespace Go.Proofs.Ytidpmbbkpclccaa
set_option linter.all false
open Go.RowKit
set_option maxRecDepth 100000

/-- Do labels fit a kind, by how many there are of each? -/
def fitsV (kind : Int) (n ww wr rw : Nat) : Bool :=
  decide (2 ≤ n) && decide (ww + wr + rw = n) && (if kind = 6 then decide (wr + rw = 0) else if kind = 9 then decide (rw = 0) && decide (0 < wr) else if kind = 10 then decide (rw = 1) else if kind = 11 then decide (0 < rw) else false)
def fitsD (kind : Int) (l : List Int) : Bool := fitsV kind l.length (l.countP (· == 1)) (l.countP (· == 2)) (l.countP (· == 4))
end Go.Proofs.Ytidpmbbkpclccaa
