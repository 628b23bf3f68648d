/- The document's set of a row. -/
import Derived.Test.YtidpmbbkpclccaaSetPure
import Derived.Test.YtidpmbbkpclccaaRefA
namespace Go.Proofs.Ytidpmbbkpclccaa
set_option linter.all false
open Go.RowKit
set_option maxRecDepth 100000

theorem SameO_is {W : World} {B B' c d : Nat} {A A' : Option Addr} {l : List Int} (h : W.ownsRow B 3 1 (.slice A l.length c) l.length (intsI l)) (h2 : W.ownsRow B' 3 1 (.slice A' l.length d) l.length (intsI l)) (hlen : l.length ≤ 1000000) :
    Calls Try.prog 10 #[.slice A l.length c, .slice A' l.length d] W (Rets (SamePost true W)) := by
  have := Same_is (c := c) (d := d) (own_intsI h (by omega)) (own_intsI h2 (by omega))
  simpa using this
end Go.Proofs.Ytidpmbbkpclccaa
