/- The document's graph: the mask of an arc, where arcs lead; may a graph be. -/
import Derived.Test.YtidpmbbkpclccaaRefA
import Derived.Test.YtidpmbbkpclccaaBits
namespace Go.Proofs.Ytidpmbbkpclccaa
set_option linter.all false
open Go.RowKit
set_option maxRecDepth 100000

/-- The document's graph of n vertices, its rows at R: Mx holds the masks. -/
def RefG (W : World) (n : Nat) (R : Option Addr) (Mx : Nat → Nat → Int) : Prop :=
  n ≤ 1024 ∧ ∀ i, i < n → ∃ b o rb ro cc, R = some ⟨b, o, none⟩ ∧ W.cell? ⟨b, o + i, none⟩ = some (.slice (some ⟨rb, ro, none⟩) n cc) ∧ ∀ j, j < n → W.cell? ⟨rb, ro + j, none⟩ = some (.int .i64 (Mx i j))
def refV (n : Nat) (R : Option Addr) (c : Nat) : Value := .agg #[.int .i64 (n : Int), .slice R n c]
theorem RefG.fr0 {W W' : World} {n : Nat} {R : Option Addr} {Mx : Nat → Nat → Int} (h : RefG W n R Mx) (f : Fr0 W W') : RefG W' n R Mx := by
  refine ⟨h.1, fun i hi => ?_⟩
  obtain ⟨b, o, rb, ro, cc, e, h1, h2⟩ := h.2 i hi
  exact ⟨b, o, rb, ro, cc, e, f.cell h1 (fun x => x), fun j hj => f.cell (h2 j hj) (fun x => x)⟩
/-- The mask of an arc, of any numbers. -/
def maskR (n : Nat) (Mx : Nat → Nat → Int) (a b : Int) : Int := if 0 ≤ a ∧ a < n ∧ 0 ≤ b ∧ b < n then Mx a.toNat b.toNat else 0
def IntPost (r : Int) (W : World) (v : Value) (w' : World) : Prop := v = .int .i64 r ∧ Fr0 W w'
theorem MaskR_is {W : World} {n c : Nat} {R : Option Addr} {Mx : Nat → Nat → Int} (h : RefG W n R Mx) (a b : Int) :
    Calls Try.prog 21 #[.agg #[.int .i64 (n : Int), .slice R n c], .int .i64 a, .int .i64 b] W (Rets (IntPost (maskR n Mx a b) W)) := by
  have hn := h.1
  by_cases ha : 0 ≤ a
  · by_cases ha2 : a < n
    · by_cases hb : 0 ≤ b
      · by_cases hb2 : b < n
        · obtain ⟨i, rfl⟩ : ∃ i : Nat, a = (i : Int) := ⟨a.toNat, by omega⟩
          obtain ⟨j, rfl⟩ : ∃ j : Nat, b = (j : Int) := ⟨b.toNat, by omega⟩
          have e : maskR n Mx i j = Mx i j := by rw [maskR, if_pos ⟨ha, ha2, hb, hb2⟩]; rfl
          rw [e]
          obtain ⟨q, o, rb, ro, cc, rfl, h1, h2⟩ := (h.fr0 (fr_alloc _ W (.cells #[.int .i64 (n : Int), .slice R n c] 36))).2 i (by omega)
          have h3 := h2 j (by omega)
          have g1 : (i : Int) < (n : Int) := ha2
          have g2 : (j : Int) < (n : Int) := hb2
          clear h h2 ha ha2 hb hb2 e
          go_enter Try.func21, Try.ntmps21
          go_wp2_with fail
          go_ret
          exact ⟨_, rfl, rfl, fr_alloc _ _ _⟩
        · have e : maskR n Mx a b = 0 := by rw [maskR, if_neg (by omega)]
          rw [e]
          clear e
          go_enter Try.func21, Try.ntmps21
          go_wp2_with fail
          go_ret
          exact ⟨_, rfl, rfl, fr_alloc _ _ _⟩
      · have e : maskR n Mx a b = 0 := by rw [maskR, if_neg (by omega)]
        rw [e]
        clear e
        go_enter Try.func21, Try.ntmps21
        go_wp2_with fail
        go_ret
        exact ⟨_, rfl, rfl, fr_alloc _ _ _⟩
    · have e : maskR n Mx a b = 0 := by rw [maskR, if_neg (by omega)]
      rw [e]
      clear e
      go_enter Try.func21, Try.ntmps21
      go_wp2_with fail
      go_ret
      exact ⟨_, rfl, rfl, fr_alloc _ _ _⟩
  · have e : maskR n Mx a b = 0 := by rw [maskR, if_neg (by omega)]
    rw [e]
    clear e
    go_enter Try.func21, Try.ntmps21
    go_wp2_with fail
    go_ret
    exact ⟨_, rfl, rfl, fr_alloc _ _ _⟩
/-- Where arcs of a mask lead, by the document. -/
def outR (n : Nat) (Mx : Nat → Nat → Int) (v m : Int) : Nat → Bool := fun w => bits .and .i64 (maskR n Mx v (w : Int)) m != 0
end Go.Proofs.Ytidpmbbkpclccaa
