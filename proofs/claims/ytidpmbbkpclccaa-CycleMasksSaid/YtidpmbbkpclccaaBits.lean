/- The sets of small numbers (package bits): what each function of it does. -/
import Derived.Test.YtidpmbbkpclccaaInts
import Derived.Shelf.Spec.TrailingZeros
namespace Go.Proofs.Ytidpmbbkpclccaa
set_option linter.all false
open Go.RowKit
set_option maxRecDepth 100000


def u64s (ws : List Nat) : Array Value := (ws.map (fun x : Nat => Value.int .u64 (x : Int))).toArray



section
variable {S : Nat → Prop} {W W' : World} {g a n : Nat} {p q : Nat → Bool}
theorem u64s_get (ws : List Nat) (j : Nat) : (u64s ws)[j]? = (ws[j]?).map (fun x : Nat => Value.int .u64 (x : Int)) := by simp [u64s]
end

/-! ### Room, fits -/

/-! ### Has -/
theorem has_bit (x j : Nat) (hx : x < 2 ^ 64) : (bits BinOp.and IntKind.u64 ((x : Int) / 2 ^ j) 1 == 1) = x.testBit j := by
  have e : ((x : Int) / 2 ^ j) = ((x / 2 ^ j : Nat) : Int) := by simp
  have hlt : x / 2 ^ j < 2 ^ 64 := Nat.lt_of_le_of_lt (Nat.div_le_self _ _) hx
  have h1 := bits_and_u64_nat (x / 2 ^ j) 1 (by simpa using hlt) (by decide)
  have h2 : bits BinOp.and IntKind.u64 ((x : Int) / 2 ^ j) 1 = ((x / 2 ^ j % 2 : Nat) : Int) := by
    rw [e, show (1 : Int) = ((1 : Nat) : Int) from rfl, h1, Nat.and_one_is_mod]
  rw [h2, Nat.testBit_eq_decide_div_mod_eq]
  rcases Nat.mod_two_eq_zero_or_one (x / 2 ^ j) with h | h <;> simp [h]

/-- What is in a set behind a Put. -/
def putP (n : Nat) (p : Nat → Bool) (xs : List Int) : Nat → Bool := fun k => p k || (decide (k < n) && decide ((k : Int) ∈ xs))
theorem putP_nil (n : Nat) (p : Nat → Bool) : putP n p [] = p := by funext k; simp [putP]
theorem putP_snoc (n : Nat) (p : Nat → Bool) (xs : List Int) (x : Int) : putP n p (xs ++ [x]) = putP n (putP n p xs) [x] := by
  funext k; simp [putP, Bool.or_assoc, Bool.and_or_distrib_left]
theorem putP_out {n : Nat} {p : Nat → Bool} {x : Int} (h : ¬ (0 ≤ x ∧ x < n)) : putP n p [x] = p := by
  funext k
  simp only [putP, List.mem_singleton]
  by_cases hk : k < n
  · have : ¬ ((k : Int) = x) := by omega
    simp [this]
  · simp [hk]

/-! ### Put -/

/-! ### math/bits.TrailingZeros64 -/
theorem ctz_bits (y : Nat) (h0 : y ≠ 0) (h : y < 2 ^ 64) : Lib.ctz 64 y < 64 ∧ y.testBit (Lib.ctz 64 y) = true ∧ ∀ s, s < Lib.ctz 64 y → y.testBit s = false := by
  obtain ⟨m, hm, hlt⟩ := Lib.ctzFrom_spec 64 y (by omega) h
  have e : Lib.ctz 64 y = Lib.ctzFrom 64 y := by simp [Lib.ctz, h0]
  rw [e]
  generalize Lib.ctzFrom 64 y = t at hm hlt
  subst hm
  refine ⟨hlt, ?_, fun s hs => ?_⟩
  · rw [Nat.testBit_two_pow_mul]; simp [Nat.testBit_zero]
  · rw [Nat.testBit_two_pow_mul]; simp; omega

/-! ### Next -/
/-- The numbers of a set, rising. -/
def elems (n : Nat) (p : Nat → Bool) : List Nat := (List.range n).filter p
def headInt : List Nat → Int
  | [] => -1
  | x :: _ => (x : Int)
/-- The least one from a number on. -/
def nxtP (l : List Nat) (k : Int) : Int := headInt (l.filter (fun m : Nat => decide (k ≤ (m : Int))))
theorem elems_sorted (n : Nat) (p : Nat → Bool) : (elems n p).Pairwise (· < ·) := List.Pairwise.filter _ List.pairwise_lt_range
theorem mem_elems {n : Nat} {p : Nat → Bool} {k : Nat} : k ∈ elems n p ↔ k < n ∧ p k = true := by simp [elems]
theorem headInt_filter {l : List Nat} (hs : l.Pairwise (· < ·)) {P : Nat → Bool} {m : Nat} (hm : m ∈ l) (hP : P m = true) (hmin : ∀ j, j ∈ l → j < m → P j = false) : headInt (l.filter P) = m := by
  induction l with
  | nil => cases hm
  | cons x l ih =>
    rw [List.pairwise_cons] at hs
    rcases List.mem_cons.1 hm with rfl | hm'
    · simp [hP, headInt]
    · have : P x = false := hmin x (by simp) (hs.1 m hm')
      rw [List.filter_cons, this]
      exact ih hs.2 hm' (fun j hj hlt => hmin j (List.mem_cons_of_mem _ hj) hlt)
theorem nxtP_some {n : Nat} {p : Nat → Bool} {k : Int} {m : Nat} (hm : m < n) (hp : p m = true) (hk : k ≤ m) (hmin : ∀ j : Nat, k ≤ j → j < m → p j = false) : nxtP (elems n p) k = m :=
  headInt_filter (elems_sorted n p) (mem_elems.2 ⟨hm, hp⟩) (by simpa using hk) (fun j hj hlt => by
    by_cases h : k ≤ (j : Int)
    · have := hmin j h hlt; rw [(mem_elems.1 hj).2] at this; cases this
    · simpa using h)
theorem nxtP_none {n : Nat} {p : Nat → Bool} {k : Int} (h : ∀ j : Nat, k ≤ j → j < n → p j = false) : nxtP (elems n p) k = -1 := by
  have : (elems n p).filter (fun m : Nat => decide (k ≤ (m : Int))) = [] := by
    rw [List.filter_eq_nil_iff]
    intro j hj
    obtain ⟨h1, h2⟩ := mem_elems.1 hj
    intro hk
    have := h j (by simpa using hk) h1
    rw [h2] at this; cases this
  rw [nxtP, this]; rfl
theorem nxtP_zero (l : List Nat) : nxtP l 0 = headInt l := by
  rw [nxtP, List.filter_eq_self.2]; intro a _; simp
theorem nxtP_succ {l pre rest : List Nat} {x : Nat} (hs : l.Pairwise (· < ·)) (h : l = pre ++ x :: rest) : nxtP l ((x : Int) + 1) = headInt rest := by
  subst h
  rw [List.pairwise_append, List.pairwise_cons] at hs
  obtain ⟨_, ⟨h2, _⟩, h4⟩ := hs
  have e1 : pre.filter (fun m : Nat => decide ((x : Int) + 1 ≤ (m : Int))) = [] := by
    rw [List.filter_eq_nil_iff]; intro j hj; have := h4 j hj x (by simp); simp; omega
  have e2 : rest.filter (fun m : Nat => decide ((x : Int) + 1 ≤ (m : Int))) = rest := by
    rw [List.filter_eq_self]; intro j hj; have := h2 j hj; simp; omega
  rw [nxtP, List.filter_append, List.filter_cons, e1, e2, if_neg (by simp; omega)]
  rfl


/-! ### New -/
theorem info_u64 : (Try.prog.info? 101).map (fun i => (i.zero, i.size, i.bytes)) = some (some (.int .u64 0), 1, 8) := by kernel_rfl
end Go.Proofs.Ytidpmbbkpclccaa
