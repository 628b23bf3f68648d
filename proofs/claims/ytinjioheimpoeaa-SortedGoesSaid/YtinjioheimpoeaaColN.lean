/- Going through something, as far as it is wanted: what is collected. -/
import Derived.Test.YtinjioheimpoeaaInts
namespace Go.Proofs.Ytinjioheimpoeaa
set_option linter.all false
open Go.RowKit

/-- Between two rounds of a loop that collects, at most so many. -/
def ColN (w : World) (most : Nat) (pre : List Int) (W : World) : Prop :=
  Fr0 w W ∧ pre.length ≤ most ∧ ∃ v, Box W w.heap.size 22 v ∧ W.ownsRow w.heap.size 3 1 v pre.length (intsI pre)
/-- What the law gets: as many as are wanted. -/
def ColX (w : World) (most : Nat) (pre : List Int) (W : World) : Prop :=
  Fr0 w W ∧ ∃ v, Box W w.heap.size 22 v ∧ most < pre.length ∧ W.ownsRow w.heap.size 3 1 v most (intsI (pre.take most))
end Go.Proofs.Ytinjioheimpoeaa
