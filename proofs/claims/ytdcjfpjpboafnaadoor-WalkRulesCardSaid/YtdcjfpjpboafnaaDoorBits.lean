/- The sets of small numbers (package bits): what each function of it does. -/
import Derived.Test.YtdcjfpjpboafnaaDoorInts
import Derived.Shelf.Spec.TrailingZeros
namespace Go.Proofs.YtdcjfpjpboafnaaDoor
set_option linter.all false
open Go.RowKit
set_option maxRecDepth 100000

/-- The library's table, in its variable. -/
def Tab (W : World) : Prop := TabAt 0 Lib.deBruijn64tab W
theorem Tab.fr {S : Nat → Prop} {W W' : World} (h : Tab W) (f : Fr S W W') (h0 : ¬ S 0) : Tab W' := fun j hj => f.cell (h j hj) h0
theorem Tab.grow {B : Nat} {W W' : World} (h : Tab W) (f : Grow B W W') : Tab W' := fun j hj => f.cell (h j hj)

def u64s (ws : List Nat) : Array Value := (ws.map (fun x : Nat => Value.int .u64 (x : Int))).toArray

/-- Block g of W is a set with room for n numbers, its words lie at block a; p: what is in it. -/
structure IsBits (W : World) (g a n : Nat) (p : Nat → Bool) : Prop where
  tab : Tab W
  room : n ≤ 65536
  lt : ∀ k, p k = true → k < n
  words : ∃ ws : List Nat, ws.length = (n + 63) / 64 ∧ W.heap[g]? = some (.cells #[.int .i64 n, .slice (some ⟨a, 0, none⟩) ((n + 63) / 64) ((n + 63) / 64)] 79 (0, 0)) ∧
    W.heap[a]? = some (.cells (u64s ws) 99 (0, 0)) ∧ (∀ x ∈ ws, x < 2 ^ 64) ∧ (∀ k, p k = (ws.getD (k / 64) 0).testBit (k % 64))


section
variable {S : Nat → Prop} {W W' : World} {g a n : Nat} {p q : Nat → Bool}
theorem u64s_get (ws : List Nat) (j : Nat) : (u64s ws)[j]? = (ws[j]?).map (fun x : Nat => Value.int .u64 (x : Int)) := by simp [u64s]
theorem IsBits.fr (h : IsBits W g a n p) (f : Fr S W W') (h0 : ¬ S 0) (hg : ¬ S g) (ha : ¬ S a) : IsBits W' g a n p := by
  obtain ⟨ws, h1, h2, h3, h4, h5⟩ := h.words
  exact ⟨h.tab.fr f h0, h.room, h.lt, ws, h1, f.heap h2 hg, f.heap h3 ha, h4, h5⟩
theorem IsBits.fr0 (h : IsBits W g a n p) (f : Fr0 W W') : IsBits W' g a n p := h.fr f (fun x => x) (fun x => x) (fun x => x)
theorem IsBits.grow {B : Nat} (h : IsBits W g a n p) (f : Grow B W W') : IsBits W' g a n p := by
  obtain ⟨ws, h1, h2, h3, h4, h5⟩ := h.words
  exact ⟨h.tab.grow f, h.room, h.lt, ws, h1, f.heap h2, f.heap h3, h4, h5⟩
theorem IsBits.ltg (h : IsBits W g a n p) : g < W.heap.size := by obtain ⟨ws, h1, h2, _⟩ := h.words; exact heap_lt h2
theorem IsBits.lta (h : IsBits W g a n p) : a < W.heap.size := by obtain ⟨ws, h1, h2, h3, _⟩ := h.words; exact heap_lt h3
theorem IsBits.c0 (h : IsBits W g a n p) : W.cell? ⟨g, 0, none⟩ = some (.int .i64 n) := by obtain ⟨ws, h1, h2, _⟩ := h.words; simp [World.cell?, h2]
theorem IsBits.c1 (h : IsBits W g a n p) : W.cell? ⟨g, 1, none⟩ = some (.slice (some ⟨a, 0, none⟩) ((n + 63) / 64) ((n + 63) / 64)) := by obtain ⟨ws, h1, h2, _⟩ := h.words; simp [World.cell?, h2]
theorem IsBits.ne_ga (h : IsBits W g a n p) : g ≠ a := by
  obtain ⟨ws, h1, h2, h3, _⟩ := h.words
  rintro rfl
  rw [h2] at h3
  injection h3 with h3
  injection h3 with _ h3
  exact absurd h3 (by decide)
theorem IsBits.ne_tabs (h : IsBits W g a n p) : 0 ≠ g ∧ 0 ≠ a := by
  obtain ⟨ws, h1, h2, h3, _⟩ := h.words
  have ht := h.tab 0 (by decide)
  constructor
  · rintro rfl
    simp [World.cell?, h2, Lib.deBruijn64tab] at ht
  · rintro rfl
    simp only [World.cell?, h3, u64s_get] at ht
    cases hw : ws[0]? with
    | none => rw [hw] at ht; simp at ht
    | some x => rw [hw] at ht; simp at ht
/-- What the words hold at a number that there is room for. -/
theorem IsBits.word (h : IsBits W g a n p) {k : Int} (h0 : 0 ≤ k) (h1 : k < n) : ∃ x : Nat, x < 2 ^ 64 ∧ W.cell? ⟨a, (k / 64).toNat, none⟩ = some (.int .u64 (x : Int)) ∧ W.frozen? ⟨a, (k / 64).toNat, none⟩ = false ∧
    (∀ j : Nat, j < 64 → p (64 * (k / 64).toNat + j) = x.testBit j) := by
  obtain ⟨ws, hl, h2, h3, h4, h5⟩ := h.words
  have hi : (k / 64).toNat < ws.length := by omega
  refine ⟨ws[(k / 64).toNat], h4 _ (List.getElem_mem _), ?_, ?_, fun j hj => ?_⟩
  · simp only [World.cell?, h3, u64s_get]
    simp [List.getElem?_eq_getElem hi]
  · simp [World.frozen?, h3]
  · rw [h5, show (64 * (k / 64).toNat + j) / 64 = (k / 64).toNat by omega, show (64 * (k / 64).toNat + j) % 64 = j by omega]
    simp [List.getD_eq_getElem?_getD, List.getElem?_eq_getElem hi]
theorem IsBits.ext (h : IsBits W g a n p) (e : ∀ k, q k = p k) : IsBits W g a n q := by have : q = p := funext e; subst this; exact h
/-- One word written anew. -/
theorem IsBits.set (h : IsBits W g a n p) {i : Nat} {y : Nat} (hi : i < (n + 63) / 64) (hy : y < 2 ^ 64) (hq : ∀ j, j < 64 → q (64 * i + j) = y.testBit j) (hq2 : ∀ k, k / 64 ≠ i → q k = p k) (hlt : ∀ k, q k = true → k < n) :
    IsBits (W.setCell ⟨a, i, none⟩ (.int .u64 (y : Int))) g a n q := by
  have hga := h.ne_ga
  have ht := h.ne_tabs
  obtain ⟨ws, hl, h2, h3, h4, h5⟩ := h.words
  have hf : Fr (fun k => k = a) W (W.setCell ⟨a, i, none⟩ (.int .u64 (y : Int))) := fr_setCell _ _ _ (fun _ => rfl)
  refine ⟨h.tab.fr hf ht.2, h.room, hlt, ws.set i y, by simp [hl], hf.heap h2 hga, ?_, ?_, ?_⟩
  · simp only [World.setCell, Array.getElem?_modify, h3, if_true]
    simp [u64s, List.map_set]
  · intro x hx
    rcases List.mem_or_eq_of_mem_set hx with hx | rfl
    · exact h4 x hx
    · exact hy
  · intro k
    by_cases e : k / 64 = i
    · have := hq (k % 64) (Nat.mod_lt _ (by decide))
      rw [show 64 * i + k % 64 = k by omega] at this
      rw [this, e]
      simp [List.getD_eq_getElem?_getD, hl, hi]
    · rw [hq2 k e, h5]
      simp [List.getD_eq_getElem?_getD, Ne.symm e]
end

/-! ### Room, fits -/
theorem Room_nil (w : World) : Calls Tryd.prog 64 #[.pointer none] w fun e w' => e = .returned (.int .i64 0) ∧ w = w' := by
  go_enter Tryd.func64, Tryd.ntmps64
  go_wp2
  go_ret
  exact ⟨rfl, rfl⟩
theorem Room_c (g : Nat) (n : Int) (w : World) (h : w.cell? ⟨g, 0, none⟩ = some (.int .i64 n)) : Calls Tryd.prog 64 #[.pointer (some ⟨g, 0, none⟩)] w fun e w' => e = .returned (.int .i64 n) ∧ w = w' := by
  go_enter Tryd.func64, Tryd.ntmps64
  go_wp2
  go_ret
  exact ⟨rfl, rfl⟩
theorem fits_yes (g : Nat) (n k : Int) (w : World) (h : w.cell? ⟨g, 0, none⟩ = some (.int .i64 n)) (h0 : 0 ≤ k) (h1 : k < n) : Calls Tryd.prog 44 #[.pointer (some ⟨g, 0, none⟩), .int .i64 k] w fun e w' => e = .returned (.bool true) ∧ w = w' := by
  go_enter Tryd.func44, Tryd.ntmps44
  go_wp2_with (go_at_call 64; refine (Room_c g n _ h).mono ?_; rintro e w' ⟨rfl, rfl⟩)
  go_ret
  exact ⟨by simp, rfl⟩
theorem fits_no (g : Nat) (n k : Int) (w : World) (h : w.cell? ⟨g, 0, none⟩ = some (.int .i64 n)) (h0 : ¬ (0 ≤ k ∧ k < n)) : Calls Tryd.prog 44 #[.pointer (some ⟨g, 0, none⟩), .int .i64 k] w fun e w' => e = .returned (.bool false) ∧ w = w' := by
  by_cases hk : 0 ≤ k
  · go_enter Tryd.func44, Tryd.ntmps44
    go_wp2_with (go_at_call 64; refine (Room_c g n _ h).mono ?_; rintro e w' ⟨rfl, rfl⟩)
    go_ret
    exact ⟨by simp; omega, rfl⟩
  · go_enter Tryd.func44, Tryd.ntmps44
    go_wp2_with (go_at_call 64; refine (Room_c g n _ h).mono ?_; rintro e w' ⟨rfl, rfl⟩)
    go_ret
    exact ⟨rfl, rfl⟩
theorem fits_nil (k : Int) (w : World) : Calls Tryd.prog 44 #[.pointer none, .int .i64 k] w fun e w' => e = .returned (.bool false) ∧ w = w' := by
  by_cases hk : 0 ≤ k
  · go_enter Tryd.func44, Tryd.ntmps44
    go_wp2_with (go_at_call 64; refine (Room_nil _).mono ?_; rintro e w' ⟨rfl, rfl⟩)
    go_ret
    exact ⟨by simp; omega, rfl⟩
  · go_enter Tryd.func44, Tryd.ntmps44
    go_wp2_with (go_at_call 64; refine (Room_nil _).mono ?_; rintro e w' ⟨rfl, rfl⟩)
    go_ret
    exact ⟨rfl, rfl⟩

/-! ### Has -/
theorem has_bit (x j : Nat) (hx : x < 2 ^ 64) : (bits BinOp.and IntKind.u64 ((x : Int) / 2 ^ j) 1 == 1) = x.testBit j := by
  have e : ((x : Int) / 2 ^ j) = ((x / 2 ^ j : Nat) : Int) := by simp
  have hlt : x / 2 ^ j < 2 ^ 64 := Nat.lt_of_le_of_lt (Nat.div_le_self _ _) hx
  have h1 := bits_and_u64_nat (x / 2 ^ j) 1 (by simpa using hlt) (by decide)
  have h2 : bits BinOp.and IntKind.u64 ((x : Int) / 2 ^ j) 1 = ((x / 2 ^ j % 2 : Nat) : Int) := by
    rw [e, show (1 : Int) = ((1 : Nat) : Int) from rfl, h1, Nat.and_one_is_mod]
  rw [h2, Nat.testBit_eq_decide_div_mod_eq]
  rcases Nat.mod_two_eq_zero_or_one (x / 2 ^ j) with h | h <;> simp [h]
theorem Has_is {W : World} {g a n : Nat} {p : Nat → Bool} (h : IsBits W g a n p) (k : Int) :
    Calls Tryd.prog 51 #[.pointer (some ⟨g, 0, none⟩), .int .i64 k] W fun e w' => e = .returned (.bool (decide (0 ≤ k) && p k.toNat)) ∧ W = w' := by
  have c0 := h.c0
  have c1 := h.c1
  have hr := h.room
  by_cases hk : 0 ≤ k ∧ k < n
  · obtain ⟨h0, h1⟩ := hk
    obtain ⟨x, hx, hc, hf, hb⟩ := h.word h0 h1
    have hi : k / 64 < (((n + 63) / 64 : Nat) : Int) := by omega
    have hb' := hb (k % 64).toNat (by omega)
    rw [show 64 * (k / 64).toNat + (k % 64).toNat = k.toNat by omega] at hb'
    have HB := Lib.hid hb'
    clear hb hb'
    go_enter Tryd.func51, Tryd.ntmps51
    go_wp2_with (go_at_call 44; refine (fits_yes g n k _ c0 h0 h1).mono ?_; rintro e w' ⟨rfl, rfl⟩)
    go_ret
    refine ⟨?_, rfl⟩
    rw [has_bit x _ hx, ← HB.out]
    simp [h0]
  · go_enter Tryd.func51, Tryd.ntmps51
    go_wp2_with (go_at_call 44; refine (fits_no g n k _ c0 hk).mono ?_; rintro e w' ⟨rfl, rfl⟩)
    go_ret
    refine ⟨?_, rfl⟩
    have : (decide (0 ≤ k) && p k.toNat) = false := by
      by_cases h0 : 0 ≤ k
      · have : p k.toNat = false := by
          cases hp : p k.toNat with
          | false => rfl
          | true => have := h.lt _ hp; exact absurd ⟨h0, by omega⟩ hk
        simp [this]
      · simp [h0]
    rw [this]
    rfl

/-- What is in a set behind a Put. -/
def putP (n : Nat) (p : Nat → Bool) (xs : List Int) : Nat → Bool := fun k => p k || (decide (k < n) && decide ((k : Int) ∈ xs))
theorem putP_nil (n : Nat) (p : Nat → Bool) : putP n p [] = p := by funext k; simp [putP]
theorem putP_snoc (n : Nat) (p : Nat → Bool) (xs : List Int) (x : Int) : putP n p (xs ++ [x]) = putP n (putP n p xs) [x] := by
  funext k; simp [putP, Bool.or_assoc, Bool.and_or_distrib_left]
theorem putP_out {n : Nat} {p : Nat → Bool} {x : Int} (h : ¬ (0 ≤ x ∧ x < n)) : putP n p [x] = p := by
  funext k
  simp only [putP, List.mem_singleton]
  by_cases hk : k < n
  · have : ¬ ((k : Int) = x) := by omega
    simp [this]
  · simp [hk]
/-- One number put in: the world written out. -/
theorem IsBits.put {W : World} {g a n : Nat} {p : Nat → Bool} (h : IsBits W g a n p) {k : Int} {x : Nat} (h0 : 0 ≤ k) (h1 : k < n) (hx : x < 2 ^ 64)
    (hb : ∀ j : Nat, j < 64 → p (64 * (k / 64).toNat + j) = x.testBit j) :
    IsBits (W.setCell ⟨a, (k / 64).toNat, none⟩ (.int .u64 (bits .or .u64 (x : Int) (IntKind.u64.wrap (2 ^ (k % 64).toNat))))) g a n (putP n p [k]) := by
  have hlt : (k % 64).toNat < 64 := by omega
  have hpow : (2 : Nat) ^ (k % 64).toNat < 2 ^ 64 := Nat.pow_lt_pow_right (by decide) hlt
  have e1 : IntKind.u64.wrap (2 ^ (k % 64).toNat) = ((2 ^ (k % 64).toNat : Nat) : Int) := by
    rw [IntKind.wrap_u64]
    have : ((2 : Int) ^ (k % 64).toNat) = ((2 ^ (k % 64).toNat : Nat) : Int) := by simp
    rw [this]
    exact Int.emod_eq_of_lt (Int.natCast_nonneg _) (by generalize 2 ^ (k % 64).toNat = y at hpow ⊢; simp at hpow; omega)
  rw [e1, bits_or_u64_nat x _ (by simpa using hx) (by simpa using hpow)]
  refine h.set (by omega) (Nat.or_lt_two_pow hx hpow) (fun j hj => ?_) (fun m hm => ?_) (fun m hm => ?_)
  · rw [Nat.testBit_or, ← hb j hj, Nat.testBit_two_pow]
    simp only [putP, List.mem_singleton]
    congr 1
    by_cases e : (k % 64).toNat = j
    · have : ((64 * (k / 64).toNat + j : Nat) : Int) = k := by omega
      simp [e, this]; omega
    · have : ¬ (((64 * (k / 64).toNat + j : Nat) : Int) = k) := by omega
      simp only [this, e]; simp
  · simp only [putP, List.mem_singleton]
    have : ¬ ((m : Int) = k) := by omega
    simp [this]
  · simp only [putP, Bool.or_eq_true, Bool.and_eq_true, decide_eq_true_eq] at hm
    rcases hm with hm | hm
    · exact h.lt _ hm
    · exact hm.1

/-! ### Put -/
set_option maxHeartbeats 1000000 in
theorem Put_is {W : World} {g a n : Nat} {p : Nat → Bool} (h : IsBits W g a n p) {A : Option Addr} {c : Nat} {xs : List Int} (hA : IntsAt W A xs) :
    Calls Tryd.prog 30 #[.pointer (some ⟨g, 0, none⟩), .slice A xs.length c] W fun e w' => e = .returned (.tuple #[]) ∧ Fr (fun k => k = a) W w' ∧ IsBits w' g a n (putP n p xs) := by
  obtain ⟨hlen, hA⟩ := hA
  have hne : ∀ b o, A = some ⟨b, o, none⟩ → xs ≠ [] → (∀ j, j < xs.length → W.cell? ⟨b, o + j, none⟩ = some (.int .i64 (xs.getD j 0))) → b ≠ a := by
    intro b o _ hx hc e
    subst e
    have h0 := hc 0 (List.length_pos_iff.2 hx)
    obtain ⟨ws, _, _, h3, _⟩ := h.words
    simp only [World.cell?, h3, u64s_get] at h0
    cases hw : ws[o + 0]? with
    | none => rw [hw] at h0; simp at h0
    | some x => rw [hw] at h0; simp at h0
  go_enter Tryd.func30, Tryd.ntmps30
  go_wp2
  go_loopw [8] (fun i wr => ∃ j : Nat, j ≤ xs.length ∧ i = .int .i64 j ∧ Fr (fun k => k = a) W wr ∧ IsBits wr g a n (putP n p (xs.take j))) (fun i _ => xs.length - (intOf i).toNat)
  case atStart => exact ⟨0, Nat.zero_le _, rfl, Fr.refl _ _, by rw [List.take_zero, putP_nil]; exact h⟩
  case round =>
    obtain ⟨j, hj, rfl, hf, hb⟩ := hrel
    by_cases hlt : j < xs.length
    · rcases hA with hA | ⟨b, o, rfl, hc⟩
      · subst hA; simp at hlt
      · have hba := hne b o rfl (by rintro rfl; simp at hlt) hc
        have hcell := hf.cell (hc j hlt) (by simpa using hba)
        have hts := take_snoc xs j hlt
        generalize hk : xs.getD j 0 = k at hcell hts
        have c0 := hb.c0
        have c1 := hb.c1
        have hr := hb.room
        have HT := Lib.hid hts
        clear hk hts hc hne
        have hj' : (j : Int) < (xs.length : Int) := by omega
        by_cases hin : 0 ≤ k ∧ k < n
        · obtain ⟨h0, h1⟩ := hin
          obtain ⟨x, hx, hw, hfz, hbit⟩ := hb.word h0 h1
          have hi : k / 64 < (((n + 63) / 64 : Nat) : Int) := by omega
          have hb1 := hb.put h0 h1 hx hbit
          have HX := Lib.hid hb1
          clear hb1 hbit
          go_wp2_with (go_at_call 44; refine (fits_yes g n k _ c0 h0 h1).mono ?_; rintro e w' ⟨rfl, rfl⟩)
          go_region
          go_wp2
          go_roundw
          case rel =>
            refine ⟨j + 1, by omega, by go_num, ?_, ?_⟩
            · exact (hf.setCell _ _ (fun _ => rfl)).drew
            · rw [HT.out, putP_snoc]
              exact HX.out.fr0 (fr_drew _ _)
          case measure => simp [intOf]; omega
        · go_wp2_with (go_at_call 44; refine (fits_no g n k _ c0 hin).mono ?_; rintro e w' ⟨rfl, rfl⟩)
          go_roundw
          case rel => exact ⟨j + 1, by omega, by go_num, hf, by rw [HT.out, putP_snoc, putP_out hin]; exact hb⟩
          case measure => simp [intOf]; omega
    · go_wp2
      go_end0
      exact ⟨rfl, hf, by rw [List.take_of_length_le (by omega)] at hb; exact hb⟩

/-! ### math/bits.TrailingZeros64 -/
theorem ctz_bits (y : Nat) (h0 : y ≠ 0) (h : y < 2 ^ 64) : Lib.ctz 64 y < 64 ∧ y.testBit (Lib.ctz 64 y) = true ∧ ∀ s, s < Lib.ctz 64 y → y.testBit s = false := by
  obtain ⟨m, hm, hlt⟩ := Lib.ctzFrom_spec 64 y (by omega) h
  have e : Lib.ctz 64 y = Lib.ctzFrom 64 y := by simp [Lib.ctz, h0]
  rw [e]
  generalize Lib.ctzFrom 64 y = t at hm hlt
  subst hm
  refine ⟨hlt, ?_, fun s hs => ?_⟩
  · rw [Nat.testBit_two_pow_mul]; simp [Nat.testBit_zero]
  · rw [Nat.testBit_two_pow_mul]; simp; omega
set_option maxHeartbeats 1000000 in
theorem tz_core (x k idx : Nat) (w : World) (hx0 : ((x : Int) == 0) = false)
    (key : IntKind.u64.wrap (bits BinOp.and IntKind.u64 (x : Int) (IntKind.u64.wrap (-(x : Int))) * 285870213051353865) / 288230376151711744 = (idx : Int))
    (hi : idx < 64) (hk : k < 64) (hcell : w.cell? ⟨0, idx, none⟩ = some (.int .u8 k)) :
    Calls Tryd.prog 79 #[.int .u64 x] w fun e w' => e = .returned (.int .i64 k) ∧ w = w' := by
  go_enter Tryd.func79, Tryd.ntmps79
  go_wp2_with (simp only [key])
  go_ret
  exact ⟨rfl, rfl⟩
theorem TZ_is (z : Int) (y : Nat) (hz : z = y) (hy0 : y ≠ 0) (hy : y < 2 ^ 64) (w : World) (hT : Tab w) :
    Calls Tryd.prog 79 #[.int .u64 z] w fun e w' => e = .returned (.int .i64 ((Lib.ctz 64 y : Nat) : Int)) ∧ w = w' := by
  subst hz
  obtain ⟨hlow, hk⟩ := Lib.lowest_bit 64 y hy0 hy
  obtain ⟨hi, htab⟩ := Lib.deBruijn64_at _ hk
  have hcell := hT _ hi
  rw [htab] at hcell
  exact tz_core y _ _ w (by simp; omega) (tz64_key y _ (by simpa using hy) hy0 hlow) hi hk hcell

/-! ### Next -/
/-- The numbers of a set, rising. -/
def elems (n : Nat) (p : Nat → Bool) : List Nat := (List.range n).filter p
def headInt : List Nat → Int
  | [] => -1
  | x :: _ => (x : Int)
/-- The least one from a number on. -/
def nxtP (l : List Nat) (k : Int) : Int := headInt (l.filter (fun m : Nat => decide (k ≤ (m : Int))))
theorem elems_sorted (n : Nat) (p : Nat → Bool) : (elems n p).Pairwise (· < ·) := List.Pairwise.filter _ List.pairwise_lt_range
theorem mem_elems {n : Nat} {p : Nat → Bool} {k : Nat} : k ∈ elems n p ↔ k < n ∧ p k = true := by simp [elems]
theorem headInt_filter {l : List Nat} (hs : l.Pairwise (· < ·)) {P : Nat → Bool} {m : Nat} (hm : m ∈ l) (hP : P m = true) (hmin : ∀ j, j ∈ l → j < m → P j = false) : headInt (l.filter P) = m := by
  induction l with
  | nil => cases hm
  | cons x l ih =>
    rw [List.pairwise_cons] at hs
    rcases List.mem_cons.1 hm with rfl | hm'
    · simp [hP, headInt]
    · have : P x = false := hmin x (by simp) (hs.1 m hm')
      rw [List.filter_cons, this]
      exact ih hs.2 hm' (fun j hj hlt => hmin j (List.mem_cons_of_mem _ hj) hlt)
theorem nxtP_some {n : Nat} {p : Nat → Bool} {k : Int} {m : Nat} (hm : m < n) (hp : p m = true) (hk : k ≤ m) (hmin : ∀ j : Nat, k ≤ j → j < m → p j = false) : nxtP (elems n p) k = m :=
  headInt_filter (elems_sorted n p) (mem_elems.2 ⟨hm, hp⟩) (by simpa using hk) (fun j hj hlt => by
    by_cases h : k ≤ (j : Int)
    · have := hmin j h hlt; rw [(mem_elems.1 hj).2] at this; cases this
    · simpa using h)
theorem nxtP_none {n : Nat} {p : Nat → Bool} {k : Int} (h : ∀ j : Nat, k ≤ j → j < n → p j = false) : nxtP (elems n p) k = -1 := by
  have : (elems n p).filter (fun m : Nat => decide (k ≤ (m : Int))) = [] := by
    rw [List.filter_eq_nil_iff]
    intro j hj
    obtain ⟨h1, h2⟩ := mem_elems.1 hj
    intro hk
    have := h j (by simpa using hk) h1
    rw [h2] at this; cases this
  rw [nxtP, this]; rfl
theorem nxtP_zero (l : List Nat) : nxtP l 0 = headInt l := by
  rw [nxtP, List.filter_eq_self.2]; intro a _; simp
theorem nxtP_succ {l pre rest : List Nat} {x : Nat} (hs : l.Pairwise (· < ·)) (h : l = pre ++ x :: rest) : nxtP l ((x : Int) + 1) = headInt rest := by
  subst h
  rw [List.pairwise_append, List.pairwise_cons] at hs
  obtain ⟨_, ⟨h2, _⟩, h4⟩ := hs
  have e1 : pre.filter (fun m : Nat => decide ((x : Int) + 1 ≤ (m : Int))) = [] := by
    rw [List.filter_eq_nil_iff]; intro j hj; have := h4 j hj x (by simp); simp; omega
  have e2 : rest.filter (fun m : Nat => decide ((x : Int) + 1 ≤ (m : Int))) = rest := by
    rw [List.filter_eq_self]; intro j hj; have := h2 j hj; simp; omega
  rw [nxtP, List.filter_append, List.filter_cons, e1, e2, if_neg (by simp; omega)]
  rfl
set_option maxHeartbeats 1000000 in
theorem Next_is {W : World} {g a n : Nat} {p : Nat → Bool} (h : IsBits W g a n p) (k : Int) (hk : k ≤ 65536) :
    Calls Tryd.prog 70 #[.pointer (some ⟨g, 0, none⟩), .int .i64 k] W fun e w' => e = .returned (.int .i64 (nxtP (elems n p) k)) ∧ W = w' := by
  have c0 := h.c0
  have c1 := h.c1
  have hr := h.room
  have key : ∀ r : Int, 0 ≤ r → r < n → ∃ x : Nat, x < 2 ^ 64 ∧ W.cell? ⟨a, (r / 64).toNat, none⟩ = some (.int .u64 (x : Int)) ∧ r / 64 < (((n + 63) / 64 : Nat) : Int) ∧
      (((x / 2 ^ (r % 64).toNat = 0) ∧ (∀ m : Nat, r ≤ m → (m : Int) < (r / 64 + 1) * 64 → p m = false)) ∨ (x / 2 ^ (r % 64).toNat ≠ 0 ∧ x / 2 ^ (r % 64).toNat < 2 ^ 64 ∧
        ∃ m : Nat, r + (Lib.ctz 64 (x / 2 ^ (r % 64).toNat) : Nat) = (m : Int) ∧ p m = true ∧ ∀ j : Nat, r ≤ j → j < m → p j = false)) := by
    intro r h0 h1
    obtain ⟨x, hx, hc, _, hb⟩ := h.word h0 h1
    refine ⟨x, hx, hc, by omega, ?_⟩
    have hy : x / 2 ^ (r % 64).toNat < 2 ^ 64 := Nat.lt_of_le_of_lt (Nat.div_le_self _ _) hx
    have htb : ∀ s, (x / 2 ^ (r % 64).toNat).testBit s = x.testBit ((r % 64).toNat + s) := fun s => by rw [Nat.testBit_div_two_pow, Nat.add_comm]
    by_cases hz : x / 2 ^ (r % 64).toNat = 0
    · refine .inl ⟨hz, fun m hm hm2 => ?_⟩
      have := htb (m - r.toNat)
      rw [hz, Nat.zero_testBit] at this
      have h2 := hb ((r % 64).toNat + (m - r.toNat)) (by omega)
      rw [← this] at h2
      rw [← h2]; congr 1; omega
    · obtain ⟨t1, t2, t3⟩ := ctz_bits _ hz hy
      refine .inr ⟨hz, hy, r.toNat + Lib.ctz 64 (x / 2 ^ (r % 64).toNat), by omega, ?_, ?_⟩
      · rw [htb] at t2
        have hlt : (r % 64).toNat + Lib.ctz 64 (x / 2 ^ (r % 64).toNat) < 64 := by
          by_cases hh : (r % 64).toNat + Lib.ctz 64 (x / 2 ^ (r % 64).toNat) < 64
          · exact hh
          · rw [Nat.testBit_lt_two_pow (Nat.lt_of_lt_of_le hx (Nat.pow_le_pow_right (by decide) (by omega)))] at t2; cases t2
        rw [← t2, ← hb _ hlt]; congr 1; omega
      · intro j hj hj2
        have := t3 (j - r.toNat) (by omega)
        rw [htb] at this
        have hlt : (r % 64).toNat + (j - r.toNat) < 64 ∨ 64 ≤ (r % 64).toNat + (j - r.toNat) := by omega
        have ht2 : (r % 64).toNat + Lib.ctz 64 (x / 2 ^ (r % 64).toNat) < 64 := by
          rw [htb] at t2
          by_cases hh : (r % 64).toNat + Lib.ctz 64 (x / 2 ^ (r % 64).toNat) < 64
          · exact hh
          · rw [Nat.testBit_lt_two_pow (Nat.lt_of_lt_of_le hx (Nat.pow_le_pow_right (by decide) (by omega)))] at t2; cases t2
        rw [← this, ← hb _ (by omega)]; congr 1; omega
  have KEY := Lib.hid key
  clear key
  have hT := Lib.hid h.tab
  have hsp := Lib.hid (fun m => @nxtP_some n p k m)
  have HLT := Lib.hid h.lt
  have hnp := Lib.hid (@nxtP_none n p k)
  go_enter Tryd.func70, Tryd.ntmps70
  go_wp2
  all_goals
    go_loop [1] (fun v => ∃ r : Int, 0 ≤ r ∧ r ≤ 65600 ∧ k ≤ r ∧ v = .int .i64 r ∧ Hid (∀ m : Nat, k ≤ m → (m : Int) < r → p m = false)) (fun v => 70000 - (intOf v).toNat)
    case atStart => exact ⟨_, by omega, by omega, by omega, rfl, Lib.hid (fun m h1 h2 => by omega)⟩
    case round =>
      obtain ⟨r, hr0, hr1, hr2, rfl, HP⟩ := hrel
      by_cases hlt : r < n
      · obtain ⟨x, hx, hc, hi, hcase⟩ := KEY.out r hr0 hlt
        rcases hcase with ⟨hz, hno⟩ | ⟨hz, hy, m, hm, hpm, hmin⟩
        · have HN := Lib.hid hno
          have e : ((x : Int) / 2 ^ (r % 64).toNat != 0) = false := by
            have : ((x : Int) / 2 ^ (r % 64).toNat) = ((x / 2 ^ (r % 64).toNat : Nat) : Int) := by simp
            rw [this, hz]; rfl
          clear hz hno
          go_wp2_with (go_at_call 64; refine (Room_c g n _ c0).mono ?_; rintro e w' ⟨rfl, rfl⟩)
          go_round
          case rel => exact ⟨_, by omega, by omega, by omega, rfl, Lib.hid (fun m h1 h2 => if hh : (m : Int) < r then HP.out m h1 hh else HN.out m (by omega) h2)⟩
          case measure => simp [intOf]; omega
        · have e : ((x : Int) / 2 ^ (r % 64).toNat != 0) = true := by
            have : ((x : Int) / 2 ^ (r % 64).toNat) = ((x / 2 ^ (r % 64).toNat : Nat) : Int) := by simp
            rw [this]; simp only [bne_iff_ne, ne_eq]; exact fun h => hz (by omega)
          have hres := hsp.out m (HLT.out m hpm) hpm (by omega) (fun j hj hj2 => if hh : (j : Int) < r then HP.out j hj hh else hmin j (by omega) hj2)
          rw [← hm] at hres
          have HR := Lib.hid hres
          have HZ := Lib.hid hz
          have HY := Lib.hid hy
          have hb2 : (0 : Int) ≤ (Lib.ctz 64 (x / 2 ^ (r % 64).toNat) : Nat) ∧ ((Lib.ctz 64 (x / 2 ^ (r % 64).toNat) : Nat) : Int) ≤ 64 := by
            have := ctz_bits _ hz hy; omega
          clear hz hy hm hpm hmin hres
          generalize hq : ((Lib.ctz 64 (x / 2 ^ (r % 64).toNat) : Nat) : Int) = q at HR hb2
          have HQ := Lib.hid hq
          clear hq
          obtain ⟨hb3, hb4⟩ := hb2
          go_wp2_with (first | (go_at_call 64; refine (Room_c g n _ c0).mono ?_; rintro e w' ⟨rfl, rfl⟩) | (go_at_call 79; refine (TZ_is _ _ (by simp) HZ.out HY.out _ hT.out).mono ?_; rintro e w' ⟨rfl, rfl⟩; simp only [HQ.out]))
          go_ret
          refine ⟨?_, rfl⟩
          rw [HR.out]; rfl
      · have hres := hnp.out (fun j hj hj2 => HP.out j hj (by omega))
        have HR := Lib.hid hres
        clear hres
        go_wp2_with (go_at_call 64; refine (Room_c g n _ c0).mono ?_; rintro e w' ⟨rfl, rfl⟩)
        go_ret
        refine ⟨?_, rfl⟩
        rw [HR.out]; rfl

theorem Next_nil (k : Int) {W : World} : Calls Tryd.prog 70 #[.pointer none, .int .i64 k] W fun e w' => e = .returned (.int .i64 (-1)) ∧ W = w' := by
  go_enter Tryd.func70, Tryd.ntmps70
  go_wp2
  all_goals
    refine wp_loop_once ?_
    go_wp2_with (go_at_call 64; refine (Room_nil _).mono ?_; rintro e w' ⟨rfl, rfl⟩)
    all_goals
      first
      | (go_ret; exact ⟨rfl, rfl⟩)
      | (exfalso; omega)
theorem Has_nil (k : Int) {W : World} : Calls Tryd.prog 51 #[.pointer none, .int .i64 k] W fun e w' => e = .returned (.bool false) ∧ W = w' := by
  go_enter Tryd.func51, Tryd.ntmps51
  go_wp2_with (go_at_call 44; refine (fits_nil k _).mono ?_; rintro e w' ⟨rfl, rfl⟩)
  go_ret
  exact ⟨rfl, rfl⟩

/-! ### New -/
theorem info_u64 : (Tryd.prog.info? 99).map (fun i => (i.zero, i.size, i.bytes)) = some (some (.int .u64 0), 1, 8) := by kernel_rfl
theorem make_u64 (c : Int) (h0 : 0 ≤ c) (h1 : c ≤ 2000) (w : World) : (Instr.makeSlice 77 (.int .i64 c) (.int .i64 c)).run Tryd.prog w =
    .ok (.slice (some ⟨w.heap.size, 0, none⟩) c.toNat c.toNat) (w.alloc (.cells (u64s (List.replicate c.toNat 0)) 99)) := by
  obtain ⟨i0, hi, hz0, hz1, hz2⟩ := info_parts info_u64
  rw [run_make (P := Tryd.prog) w 77 99 i0 (.int .u64 0) Tryd.underlying77 hi hz0 .i64 .i64 c c h0 (Int.le_refl _) (by rw [hz2]; omega) (by omega), hz1]
  have : madeCells (Value.int .u64 0).cells (c.toNat * 1) = u64s (List.replicate c.toNat 0) := by
    apply Array.ext'
    simp only [madeCells, u64s, Value.cells, Nat.mul_one]
    apply List.ext_getElem
    · simp
    · intro i h1 h2
      simp [Nat.mod_one]
  rw [this]
theorem new_bits {w : World} (hT : Tab w) {n m : Nat} (hn : n ≤ 65536) (hm : m = (n + 63) / 64) :
    IsBits ((w.alloc (.cells (u64s (List.replicate m 0)) 99)).alloc (.cells #[.int .i64 n, .slice (some ⟨w.heap.size, 0, none⟩) m m] 79)) (w.heap.size + 1) w.heap.size n (fun _ => false) := by
  subst hm
  refine ⟨(hT.fr (fr_alloc (fun _ => False) _ _) (fun x => x)).fr (fr_alloc (fun _ => False) _ _) (fun x => x), hn, (fun k hk => by cases hk), List.replicate ((n + 63) / 64) 0, by simp, ?_, ?_, ?_, ?_⟩
  · have := World.alloc_heap_new (w.alloc (.cells (u64s (List.replicate ((n + 63) / 64) 0)) 99)) (.cells #[.int .i64 n, .slice (some ⟨w.heap.size, 0, none⟩) ((n + 63) / 64) ((n + 63) / 64)] 79)
    rwa [World.size_alloc] at this
  · exact (Below.heap_alloc _ _ _ (by simp)).trans (World.alloc_heap_new w _)
  · intro x hx
    rw [List.mem_replicate] at hx
    rw [hx.2]; decide
  · intro k
    rw [List.getD_eq_getElem?_getD, List.getElem?_replicate]
    split <;> simp
def NewPost (n : Int) (w : World) (v : Value) (w' : World) : Prop :=
  ∃ g a, v = .pointer (some ⟨g, 0, none⟩) ∧ w.heap.size ≤ g ∧ w.heap.size ≤ a ∧ Fr0 w w' ∧ IsBits w' g a (max 0 (min n 65536)).toNat (fun _ => false)
theorem New_is (n : Int) (w : World) (hT : Tab w) : Calls Tryd.prog 29 #[.int .i64 n] w (Rets (NewPost n w)) := by
  have fin : ∀ (v : Nat) (m : Nat), v = (max 0 (min n 65536)).toNat → m = (v + 63) / 64 →
      Rets (NewPost n w) (.returned (.pointer (some ⟨w.heap.size + 1, 0, none⟩))) ((w.alloc (.cells (u64s (List.replicate m 0)) 99)).alloc (.cells #[.int .i64 v, .slice (some ⟨w.heap.size, 0, none⟩) m m] 79)) := by
    intro v m hv hm
    refine ⟨_, rfl, _, w.heap.size, rfl, by omega, Nat.le_refl _, (fr_alloc _ _ _).alloc _, ?_⟩
    rw [← hv]
    exact new_bits hT (by omega) hm
  have FIN := Lib.hid fin
  clear fin hT
  by_cases h1 : n ≤ 0
  · have hmk := make_u64 0 (by omega) (by omega)
    go_enter Tryd.func29, Tryd.ntmps29
    go_wp2
    all_goals
      go_ret
      exact FIN.out 0 0 (by omega) (by omega)
  · by_cases h2 : n ≤ 65536
    · have hmk := make_u64 ((n + 64 - 1) / 64) (by omega) (by omega)
      go_enter Tryd.func29, Tryd.ntmps29
      go_wp2
      go_ret
      have := FIN.out n.toNat ((n + 64 - 1) / 64).toNat (by omega) (by omega)
      rw [Int.toNat_of_nonneg (by omega)] at this
      exact this
    · have hmk := make_u64 1024 (by omega) (by omega)
      go_enter Tryd.func29, Tryd.ntmps29
      go_wp2
      all_goals
        go_ret
        exact FIN.out 65536 1024 (by omega) (by omega)
end Go.Proofs.YtdcjfpjpboafnaaDoor
