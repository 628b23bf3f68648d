/- The document's closure: Row, Leads, Cyclic. -/
import Derived.Test.YtdcjfpjpboafnaaDoorFrom
namespace Go.Proofs.YtdcjfpjpboafnaaDoor
set_option linter.all false
open Go.RowKit
set_option maxRecDepth 100000

/-- What a vertex leads to, by the document. -/
def rowR (n : Nat) (Mx : Nat → Nat → Int) (v m : Int) : Nat → Bool := fromR n Mx (natI (elems n (outR n Mx v m))) (natI (List.range n)) m
def leadsR (n : Nat) (Mx : Nat → Nat → Int) (a b m : Int) : Bool := decide (b ∈ natI (elems n (rowR n Mx a m)))
theorem HasN_is {W : World} {B c : Nat} {A : Option Addr} {l : List Nat} (h : W.ownsRow B 3 1 (.slice A l.length c) l.length (ints l)) (hlen : l.length ≤ 140737488355328) (x : Int) :
    Calls Tryd.prog 20 #[.slice A l.length c, .int .i64 x] W fun e w' => e = .returned (.bool (decide (x ∈ natI l))) ∧ W = w' := by
  have := Has5_is (c := c) (own_ints h hlen) x
  rwa [show (natI l).length = l.length by simp [natI]] at this
end Go.Proofs.YtdcjfpjpboafnaaDoor
