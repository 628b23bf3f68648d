/- Labels as bits: what a mask has of a need, by its lowest three bits. -/
import Derived.Test.YtidpmbbkpclccaaCyPure
namespace Go.Proofs.Ytidpmbbkpclccaa
set_option linter.all false
open Go Go.RowKit
set_option maxRecDepth 100000

/-- The lowest three bits. -/
def low3 (m : Int) : Nat := (BitVec.ofInt 64 m &&& 7#64).toNat
theorem low3_lt (m : Int) : low3 m < 8 := by
  unfold low3
  rw [BitVec.toNat_and]
  exact Nat.lt_of_le_of_lt Nat.and_le_right (by decide)
theorem and_low (m : Int) {c : Nat} (hc : c < 8) : bits .and .i64 m (c : Int) = ((low3 m &&& c : Nat) : Int) := by
  have h : bits .and .i64 m (c : Int) = IntKind.i64.wrap ((BitVec.ofInt 64 m &&& BitVec.ofInt 64 (c : Int)).toNat : Int) := rfl
  have e : BitVec.ofInt 64 (c : Int) = 7#64 &&& BitVec.ofNat 64 c := by
    rcases (show c = 0 ∨ c = 1 ∨ c = 2 ∨ c = 3 ∨ c = 4 ∨ c = 5 ∨ c = 6 ∨ c = 7 by omega) with rfl | rfl | rfl | rfl | rfl | rfl | rfl | rfl <;> decide
  have e2 : (BitVec.ofInt 64 m &&& (7#64 &&& BitVec.ofNat 64 c)).toNat = low3 m &&& c := by
    rw [← BitVec.and_assoc, BitVec.toNat_and, low3, BitVec.toNat_ofNat, Nat.mod_eq_of_lt (by omega)]
  have hl : low3 m &&& c < 8 := Nat.lt_of_le_of_lt Nat.and_le_left (low3_lt m)
  rw [h, e, e2, IntKind.wrap_i64]
  omega
/-- Both orders of the operands. -/
theorem and_low' (m : Int) {c : Nat} (hc : c < 8) : bits .and .i64 (c : Int) m = ((low3 m &&& c : Nat) : Int) := by
  rw [← and_low m hc]
  have h1 : bits .and .i64 m (c : Int) = IntKind.i64.wrap ((BitVec.ofInt 64 m &&& BitVec.ofInt 64 (c : Int)).toNat : Int) := rfl
  have h2 : bits .and .i64 (c : Int) m = IntKind.i64.wrap ((BitVec.ofInt 64 (c : Int) &&& BitVec.ofInt 64 m).toNat : Int) := rfl
  rw [h1, h2, BitVec.and_comm]
/-- Has a mask a label? -/
def btM (m x : Int) : Bool := bits .and .i64 m x != 0
theorem btM_low (m : Int) {c : Nat} (hc : c < 8) : btM m (c : Int) = decide (low3 m &&& c ≠ 0) := by
  rw [btM, and_low m hc, Bool.eq_iff_iff]; simp
/-! ### Needs -/
structure Need where
  may : Nat
  counts : Nat
  least : Nat
  one : Bool
/-- What a kind asks for. -/
def needK (kind : Int) : Option Need :=
  if kind = 6 then some ⟨1, 0, 0, false⟩ else if kind = 9 then some ⟨3, 2, 1, false⟩ else if kind = 10 then some ⟨7, 4, 1, true⟩ else if kind = 11 then some ⟨7, 4, 1, false⟩ else none
def NeedOk (n : Need) : Prop := n = ⟨1, 0, 0, false⟩ ∨ n = ⟨3, 2, 1, false⟩ ∨ n = ⟨7, 4, 1, true⟩ ∨ n = ⟨7, 4, 1, false⟩
theorem needK_ok {kind : Int} {n : Need} (h : needK kind = some n) : NeedOk n := by
  unfold needK at h
  unfold NeedOk
  split at h
  · cases h; simp
  · split at h
    · cases h; simp
    · split at h
      · cases h; simp
      · split at h
        · cases h; simp
        · cases h
/-- A label that a mask has and a need allows. -/
def alN (n : Need) (m x : Int) : Prop := (x = 1 ∨ x = 2 ∨ x = 4) ∧ btM m x = true ∧ btM (n.may : Int) x = true
def hCN (n : Need) (m : Int) : Bool := low3 m &&& n.counts != 0
def hON (n : Need) (m : Int) : Bool := low3 m &&& (n.may - n.counts) != 0
theorem hCN_iff {n : Need} (hn : NeedOk n) (m : Int) : hCN n m = true ↔ ∃ x, alN n m x ∧ (x == (n.counts : Int)) = true := by
  have h1 := btM_low m (c := 1) (by decide)
  have h2 := btM_low m (c := 2) (by decide)
  have h4 := btM_low m (c := 4) (by decide)
  have hl := low3_lt m
  unfold hCN alN
  constructor
  · intro h
    rcases hn with rfl | rfl | rfl | rfl
    · simp at h
    · exact ⟨2, ⟨.inr (.inl rfl), h2.trans (by simpa using h), by decide⟩, by decide⟩
    · exact ⟨4, ⟨.inr (.inr rfl), h4.trans (by simpa using h), by decide⟩, by decide⟩
    · exact ⟨4, ⟨.inr (.inr rfl), h4.trans (by simpa using h), by decide⟩, by decide⟩
  · rintro ⟨x, ⟨hx, hb, hm⟩, hc⟩
    rw [beq_iff_eq] at hc
    subst hc
    rcases hn with rfl | rfl | rfl | rfl
    · simp at hx
    · have := h2.symm.trans hb; simpa using this
    · have := h4.symm.trans hb; simpa using this
    · have := h4.symm.trans hb; simpa using this
theorem hON_iff {n : Need} (hn : NeedOk n) (m : Int) : hON n m = true ↔ ∃ x, alN n m x ∧ (x == (n.counts : Int)) = false := by
  have h1 := btM_low m (c := 1) (by decide)
  have h2 := btM_low m (c := 2) (by decide)
  have h4 := btM_low m (c := 4) (by decide)
  have hl := low3_lt m
  unfold hON alN
  generalize low3 m = w at h1 h2 h4 hl
  constructor
  · intro h
    have key : ∀ w, w < 8 → (w &&& 1 ≠ 0 ∨ w &&& (n.may - n.counts) &&& 2 ≠ 0) ∨ w &&& (n.may - n.counts) = 0 := by
      rcases hn with rfl | rfl | rfl | rfl <;> decide
    rcases key w hl with (k | k) | k
    · refine ⟨1, ⟨.inl rfl, h1.trans (by simpa using k), ?_⟩, ?_⟩
      · rcases hn with rfl | rfl | rfl | rfl <;> decide
      · rcases hn with rfl | rfl | rfl | rfl <;> decide
    · have key2 : ∀ w, w < 8 → w &&& (n.may - n.counts) &&& 2 ≠ 0 → w &&& 2 ≠ 0 ∧ (n.may - n.counts) &&& 2 ≠ 0 := by
        rcases hn with rfl | rfl | rfl | rfl <;> decide
      have k2 := key2 w hl k
      refine ⟨2, ⟨.inr (.inl rfl), h2.trans (by simpa using k2.1), ?_⟩, ?_⟩
      · rcases hn with rfl | rfl | rfl | rfl
        · exact absurd rfl k2.2
        · exact absurd rfl k2.2
        · decide
        · decide
      · rcases hn with rfl | rfl | rfl | rfl
        · decide
        · exact absurd rfl k2.2
        · decide
        · decide
    · rw [k] at h; simp at h
  · rintro ⟨x, ⟨hx, hb, hm⟩, hc⟩
    have hkey : ∀ w, w < 8 → (w &&& 1 ≠ 0 → w &&& (n.may - n.counts) ≠ 0) := by
      rcases hn with rfl | rfl | rfl | rfl <;> decide
    have key7 : ∀ w, w < 8 → ¬ w &&& 2 = 0 → w &&& (7 - 4) ≠ 0 := by decide
    rcases hx with rfl | rfl | rfl
    · have := h1.symm.trans hb
      simpa using hkey w hl (by simpa using this)
    · have hb2 := h2.symm.trans hb
      simp at hb2
      rcases hn with rfl | rfl | rfl | rfl
      · exact absurd hm (by decide)
      · exact absurd hc (by decide)
      · exact bne_iff_ne.2 (key7 w hl hb2)
      · exact bne_iff_ne.2 (key7 w hl hb2)
    · rcases hn with rfl | rfl | rfl | rfl
      · exact absurd hm (by decide)
      · exact absurd hm (by decide)
      · exact absurd hc (by decide)
      · exact absurd hc (by decide)
end Go.Proofs.Ytidpmbbkpclccaa
