/- The document's reach: From. -/
import Derived.Test.YtdcjfpjpboafnaaDoorRefA
import Derived.Test.YtdcjfpjpboafnaaDoorRefNew
import Derived.Test.YtdcjfpjpboafnaaDoorMasks
import Derived.Test.YtdcjfpjpboafnaaDoorRefD
import Derived.Deep.RegionHeldLaw
namespace Go.Proofs.YtdcjfpjpboafnaaDoor
set_option linter.all false
open Go.RowKit
set_option maxRecDepth 100000

/-- An arc of the document's graph within a row. -/
def arcR (n : Nat) (Mx : Nat → Nat → Int) (ws : List Int) (m : Int) (u w : Nat) : Bool := outR n Mx (u : Int) m w && decide ((w : Int) ∈ ws)
def startR (ss ws : List Int) (v : Nat) : Bool := decide ((v : Int) ∈ ss) && decide ((v : Int) ∈ ws)
def fromR (n : Nat) (Mx : Nat → Nat → Int) (ss ws : List Int) (m : Int) : Nat → Bool := fun w => decide (w < n) && iterP n (arcR n Mx ws m) (startR ss ws) (n + 1) w
/-- What one round adds. -/
theorem elems_filter (n : Nat) (Mx : Nat → Nat → Int) (ws : List Int) (m : Int) (u : Nat) : (elems n (outR n Mx (u : Int) m)).filter (fun w : Nat => decide ((w : Int) ∈ ws)) = elems n (arcR n Mx ws m u) := by
  simp only [elems, List.filter_filter]
  congr 1
  funext w
  rw [Bool.and_comm]; rfl
theorem round_set (n : Nat) (E : Nat → Nat → Bool) (p : Nat → Bool) : ofI (natI (elems n p ++ (elems n p).flatMap (fun u => elems n (E u)))) = natI (elems n (stepP n E p)) := by
  refine rise_extI (rise_ofI _) (rise_natI (elems_sorted _ _)) (fun x => ?_)
  rw [mem_ofI, mem_natI, mem_natI]
  constructor
  · rintro ⟨k, hk, rfl⟩
    refine ⟨k, ?_, rfl⟩
    rw [mem_elems]
    rcases List.mem_append.1 hk with hk | hk
    · exact ⟨(mem_elems.1 hk).1, stepP_iff.2 (.inl (mem_elems.1 hk).2)⟩
    · obtain ⟨u, hu, hk⟩ := List.mem_flatMap.1 hk
      exact ⟨(mem_elems.1 hk).1, stepP_iff.2 (.inr ⟨u, (mem_elems.1 hu).1, (mem_elems.1 hu).2, (mem_elems.1 hk).2⟩)⟩
  · rintro ⟨k, hk, rfl⟩
    refine ⟨k, ?_, rfl⟩
    rw [mem_elems] at hk
    rw [List.mem_append]
    rcases stepP_iff.1 hk.2 with h | ⟨u, hu, h1, h2⟩
    · exact .inl (mem_elems.2 ⟨hk.1, h⟩)
    · exact .inr (List.mem_flatMap.2 ⟨u, mem_elems.2 ⟨hu, h1⟩, mem_elems.2 ⟨hk.1, h2⟩⟩)
theorem elems_len (n : Nat) (p : Nat → Bool) : (elems n p).length ≤ n := Nat.le_trans (List.length_filter_le _ _) (by rw [List.length_range]; exact Nat.le_refl _)
theorem flat_len (n : Nat) (f : Nat → List Nat) (hf : ∀ u, (f u).length ≤ n) : ∀ l : List Nat, (l.flatMap f).length ≤ l.length * n
  | [] => by simp
  | x :: xs => by
    have := flat_len n f hf xs
    have := hf x
    simp only [List.flatMap_cons, List.length_append, List.length_cons, Nat.add_mul]
    omega
end Go.Proofs.YtdcjfpjpboafnaaDoor
