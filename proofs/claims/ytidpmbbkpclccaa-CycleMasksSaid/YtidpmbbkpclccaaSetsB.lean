/- The program's sets of whole numbers: what is read of them, and going through them. -/
import Derived.Test.YtidpmbbkpclccaaSets
namespace Go.Proofs.Ytidpmbbkpclccaa
set_option linter.all false
open Go.RowKit Go.Sort Go.Shelf
attribute [local go_sem] Oper.semAt_some
set_option maxRecDepth 100000

section
variable {W : World} {A : Option Addr} {c : Nat} {zs : List Int}
def FindPost (W : World) (zs : List Int) (x : Int) (e : Ending) (w' : World) : Prop :=
  e = .returned (.tuple #[.int .i64 (zs.countP (· < x) : Nat), .bool (decide (x ∈ zs))]) ∧ Fr0 W w'
theorem SLen_is (A : Option Addr) (n c : Nat) (W : World) : Calls Try.prog 31 #[setV A n c] W fun e w' => e = .returned (.int .i64 (n : Int)) ∧ Fr0 W w' := by
  go_enter Try.func31, Try.ntmps31
  go_wp2
  go_ret
  exact ⟨rfl, fr_alloc _ _ _⟩
end

/-! ### Going through a set -/
abbrev encS : Int → Array Value := fun x => #[.int .i64 x]
def setK (k : Nat) (A : Option Addr) (c : Nat) (zs : List Int) (W : World) : Prop := Box W k 67 (.slice A zs.length c) ∧ IntsAt W A zs
theorem setK.grow {k c B : Nat} {A : Option Addr} {zs : List Int} {W W' : World} (h : setK k A c zs W) (f : Grow B W W') : setK k A c zs W' := ⟨h.1.grow f, h.2.grow f⟩
end Go.Proofs.Ytidpmbbkpclccaa
