/- What leads where (package closure), at a closure that stands: has, Leads, Row, Cyclic. -/
import Derived.Test.YtdihpobegoihkaaDoorOut
namespace Go.Proofs.YtdihpobegoihkaaDoor
set_option linter.all false
open Go.RowKit
set_option maxRecDepth 100000

def ptrs (L : List (Nat × Nat)) : List Value := L.map (fun p => .pointer (some ⟨p.1, 0, none⟩))
/-- A closure of n vertices: row i holds what M i says. -/
structure IsClo (W : World) (cg n : Nat) (L : List (Nat × Nat)) (M : Nat → Nat → Bool) : Prop where
  tab : Tab W
  room : n ≤ 1024
  len : L.length = n
  rows : ∃ v B, W.heap[cg]? = some (.cells #[v] 74 (0, 0)) ∧ W.ownsRow B 34 1 v n (ptrs L)
  bits : ∀ i, i < n → IsBits W (L.getD i default).1 (L.getD i default).2 n (M i)
section
variable {W W' : World} {cg n : Nat} {L : List (Nat × Nat)} {M : Nat → Nat → Bool}
theorem IsClo.fr0 (h : IsClo W cg n L M) (f : Fr0 W W') : IsClo W' cg n L M :=
  ⟨h.tab.fr f (fun x => x), h.room, h.len, by obtain ⟨v, B, h1, h2⟩ := h.rows; exact ⟨v, B, f.heap' h1, own_fr0 h2 f⟩, fun i hi => (h.bits i hi).fr0 f⟩
theorem IsClo.cells (h : IsClo W cg n L M) : ∃ A c, W.cell? ⟨cg, 0, none⟩ = some (.slice A n c) ∧ (∀ i, i < n → ∃ b, A = some ⟨b, 0, none⟩ ∧ W.cell? ⟨b, i, none⟩ = some (.pointer (some ⟨(L.getD i default).1, 0, none⟩))) := by
  obtain ⟨v, B, h1, h2⟩ := h.rows
  obtain ⟨A, c, rfl⟩ := own_form h2
  refine ⟨A, c, by simp [World.cell?, h1], fun i hi => ?_⟩
  rcases h2.2 with ⟨_, e⟩ | ⟨g, cap, cur, e, _⟩
  · omega
  · cases e
    refine ⟨g, rfl, ?_⟩
    rw [h2.cellAt i (by omega)]
    have hl := h.len
    simp [ptrs, List.getD_eq_getElem?_getD, List.getElem?_eq_getElem (show i < L.length by omega)]
end
def hasI (n : Nat) (v : Int) : Bool := decide (0 ≤ v) && decide (v < n)
theorem has_nil (v : Int) (W : World) : Calls Tryd.prog 55 #[.pointer none, .int .i64 v] W fun e w' => e = .returned (.bool false) ∧ W = w' := by
  go_enter Tryd.func55, Tryd.ntmps55
  go_wp2_with fail
  go_ret
  exact ⟨rfl, rfl⟩
theorem has_is {W : World} {cg n : Nat} {L : List (Nat × Nat)} {M : Nat → Nat → Bool} (h : IsClo W cg n L M) (v : Int) :
    Calls Tryd.prog 55 #[.pointer (some ⟨cg, 0, none⟩), .int .i64 v] W fun e w' => e = .returned (.bool (hasI n v)) ∧ W = w' := by
  obtain ⟨A, c, h1, _⟩ := h.cells
  clear h
  by_cases h0 : 0 ≤ v
  · by_cases h2 : v < n
    · have e : hasI n v = true := by simp [hasI, h0, h2]
      rw [e]
      go_enter Tryd.func55, Tryd.ntmps55
      go_wp2_with fail
      go_ret
      exact ⟨by simp [h2], rfl⟩
    · have e : hasI n v = false := by simp [hasI, h2]
      rw [e]
      go_enter Tryd.func55, Tryd.ntmps55
      go_wp2_with fail
      go_ret
      exact ⟨by simp [h2], rfl⟩
  · have e : hasI n v = false := by simp [hasI, h0]
    rw [e]
    go_enter Tryd.func55, Tryd.ntmps55
    go_wp2_with fail
    go_ret
    exact ⟨rfl, rfl⟩
/-- What leads where, of any numbers. -/
def leadsI (n : Nat) (M : Nat → Nat → Bool) (a b : Int) : Bool := hasI n a && (decide (0 ≤ b) && M a.toNat b.toNat)
theorem Leads_nil (a b : Int) (W : World) : Calls Tryd.prog 23 #[.pointer none, .int .i64 a, .int .i64 b] W fun e w' => e = .returned (.bool false) ∧ W = w' := by
  go_enter Tryd.func23, Tryd.ntmps23
  go_wp2_with (go_at_call 55; refine (has_nil _ _).mono ?_; rintro e w' ⟨rfl, rfl⟩)
  go_ret
  exact ⟨rfl, rfl⟩
theorem Leads_is {W : World} {cg n : Nat} {L : List (Nat × Nat)} {M : Nat → Nat → Bool} (h : IsClo W cg n L M) (a b : Int) :
    Calls Tryd.prog 23 #[.pointer (some ⟨cg, 0, none⟩), .int .i64 a, .int .i64 b] W fun e w' => e = .returned (.bool (leadsI n M a b)) ∧ W = w' := by
  obtain ⟨A, c, h1, h2⟩ := h.cells
  have HH := Lib.hid (has_is h a)
  cases hh : hasI n a with
  | false =>
    rw [hh] at HH
    have e : leadsI n M a b = false := by simp [leadsI, hh]
    rw [e]
    clear h hh h2
    go_enter Tryd.func23, Tryd.ntmps23
    go_wp2_with (go_at_call 55; refine (HH.out).mono ?_; rintro e w' ⟨rfl, rfl⟩)
    go_ret
    exact ⟨rfl, rfl⟩
  | true =>
    rw [hh] at HH
    have hb : 0 ≤ a ∧ a < n := by simpa [hasI] using hh
    obtain ⟨hb1, hb2⟩ := hb
    obtain ⟨i, rfl⟩ : ∃ i : Nat, a = (i : Int) := ⟨a.toNat, by omega⟩
    have e : leadsI n M i b = (decide (0 ≤ b) && M i b.toNat) := by simp [leadsI, hh]
    rw [e]
    obtain ⟨q, rfl, hq⟩ := h2 i (by omega)
    have HB := Lib.hid (Has_is (h.bits i (by omega)) b)
    generalize (L.getD i default).1 = gi at hq HB
    clear h hh h2 e
    go_enter Tryd.func23, Tryd.ntmps23
    go_wp2_with (first | (go_at_call 55; refine (HH.out).mono ?_; rintro e w' ⟨rfl, rfl⟩) | (go_at_call 43; refine (HB.out).mono ?_; rintro e w' ⟨rfl, rfl⟩))
    go_ret
    exact ⟨rfl, rfl⟩
end Go.Proofs.YtdihpobegoihkaaDoor
