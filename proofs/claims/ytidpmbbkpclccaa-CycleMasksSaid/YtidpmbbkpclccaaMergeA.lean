/- The library's stable sort, at arcs: merging where the one run, or the other one, is one element. -/
import Derived.Test.YtidpmbbkpclccaaInsert
namespace Go.Proofs.Ytidpmbbkpclccaa
set_option linter.all false
open Go.RowKit
set_option maxRecDepth 100000

/-- The element of x has come to k, those between one place down. -/
def ShiftL (arr cur : List ArcI) (x k : Nat) : Prop := ∀ p, cur[p]? = if x ≤ p ∧ p < k then arr[p + 1]? else if p = k then arr[x]? else arr[p]?
theorem ShiftL.start (arr : List ArcI) (x : Nat) : ShiftL arr arr x x := fun p => by
  rw [if_neg (by omega)]; split
  · rename_i h; rw [h]
  · rfl
theorem ShiftL.step {arr cur : List ArcI} {x k : Nat} (h : ShiftL arr cur x k) (hx : x ≤ k) (hl : cur.length = arr.length) (hk : k + 1 < arr.length) : ShiftL arr (swp cur k (k + 1)) x (k + 1) := by
  intro p
  rw [swp_get (by omega) (by omega), h, h, h]
  have B1 : ¬ (x ≤ k ∧ k < k) := by omega
  have B2 : ¬ (x ≤ k + 1 ∧ k + 1 < k) := by omega
  rw [if_neg B1, if_pos rfl, if_neg B2, if_neg (show ¬ k + 1 = k by omega)]
  by_cases h1 : p = k + 1
  · have B : ¬ (x ≤ p ∧ p < k + 1) := by omega
    rw [if_pos h1, if_neg B, if_pos h1]
  · rw [if_neg h1]
    by_cases h2 : p = k
    · have B : x ≤ p ∧ p < k + 1 := by omega
      rw [if_pos h2, if_pos B, h2]
    · rw [if_neg h2, if_neg h2, if_neg h1]
      by_cases h3 : x ≤ p ∧ p < k
      · have B : x ≤ p ∧ p < k + 1 := by omega
        rw [if_pos h3, if_pos B]
      · have B : ¬ (x ≤ p ∧ p < k + 1) := by omega
        rw [if_neg h3, if_neg B]
theorem ShiftL.sorted {arr cur : List ArcI} {x y i : Nat} (h : ShiftL arr cur x (i - 1)) (hi : x + 1 ≤ i) (hiy : i ≤ y) (hs : SortedOn arr (x + 1) y)
    (h1 : ∀ k, x + 1 ≤ k → k < i → ¬ leA (arr.getD x default) (arr.getD k default)) (h2 : ∀ k, i ≤ k → k < y → leA (arr.getD x default) (arr.getD k default)) : SortedOn cur x y := by
  have g : ∀ p, cur.getD p default = if x ≤ p ∧ p < i - 1 then arr.getD (p + 1) default else if p = i - 1 then arr.getD x default else arr.getD p default := by
    intro p
    rw [List.getD_eq_getElem?_getD, h p]
    split
    · simp [List.getD_eq_getElem?_getD]
    · split <;> simp [List.getD_eq_getElem?_getD]
  intro p q hp hpq hq
  rw [g, g]
  by_cases p1 : x ≤ p ∧ p < i - 1
  · rw [if_pos p1]
    by_cases q1 : x ≤ q ∧ q < i - 1
    · rw [if_pos q1]; exact hs _ _ (by omega) (by omega) (by omega)
    · rw [if_neg q1]
      by_cases q2 : q = i - 1
      · rw [if_pos q2]; exact (leA_total _ _).resolve_left (h1 (p + 1) (by omega) (by omega))
      · rw [if_neg q2]; exact hs _ _ (by omega) (by omega) hq
  · rw [if_neg p1]
    have q1 : ¬ (x ≤ q ∧ q < i - 1) := by omega
    rw [if_neg q1, if_neg (show ¬ q = i - 1 by omega)]
    by_cases p2 : p = i - 1
    · rw [if_pos p2]; exact h2 q (by omega) hq
    · rw [if_neg p2]; exact hs _ _ (by omega) hpq hq

set_option maxHeartbeats 1600000 in
theorem symMerge_A {W : World} {b cap N : Nat} {arr : List ArcI} {tail : List Value} (h : ArrAt W b arr tail) (hN : arr.length = N) (hlen : N ≤ 17592186044416) (xi mi yi : Int) (x y : Nat) (hxi : xi = x) (hmi : mi = (x : Int) + 1) (hyi : yi = y) (hxy : x + 1 < y) (hy : y ≤ N)
    (hs : SortedOn arr (x + 1) y) :
    Calls Try.prog 58 #[.slice (some ⟨b, 0, none⟩) N cap, .int .i64 xi, .int .i64 mi, .int .i64 yi, .func (.func 41) #[] #[]] W (Rets (SortPost W b tail arr x y)) := by
  subst hxi hmi hyi
  have hen := stands_enters
  have HN := Lib.hid hN
  have HS := Lib.hid hs
  clear hN hs
  have hb : ((x : Int) + 1 - (x : Int) == 1) = true := by simp; omega
  go_enter Try.func58, Try.ntmps58
  go_wp2
  go_loopw [10, 11] (fun vi vj wr => ∃ (i j : Nat), x + 1 ≤ i ∧ i ≤ j ∧ j ≤ y ∧ vi = .int .i64 i ∧ vj = .int .i64 j ∧ Hid (∀ k, x + 1 ≤ k → k < i → ¬ leA (arr.getD x default) (arr.getD k default)) ∧ Hid (∀ k, j ≤ k → k < y → leA (arr.getD x default) (arr.getD k default)) ∧ ArrAt wr b arr tail ∧ Fr (fun k => k = b) W wr) (fun vi vj _ => (intOf vj).toNat - (intOf vi).toNat)
  case atStart => exact ⟨x + 1, y, by omega, by omega, by omega, by go_num, rfl, Lib.hid (fun k h1 h2 => by omega), Lib.hid (fun k h1 h2 => by omega), h, Fr.refl _ _⟩
  case round =>
    obtain ⟨i, j, hi, hij, hj, rfl, rfl, HA, HB, ha, hf⟩ := hrel
    by_cases hlt : i < j
    · obtain ⟨hh, hhd⟩ : ∃ hh : Nat, hh = (i + j) / 2 := ⟨_, rfl⟩
      obtain ⟨c1, c2, c3⟩ := ha.arc (j := hh) (by have := HN.out; omega)
      obtain ⟨d1, d2, d3⟩ := ha.arc (j := x) (by have := HN.out; omega)
      have hdec := standsI_lt (arr.getD hh default) (arr.getD x default)
      generalize hu : arr.getD hh default = u at c1 c2 c3 hdec
      generalize hv : arr.getD x default = v at d1 d2 d3 hdec
      have HU := Lib.hid hu
      have HV := Lib.hid hv
      have HH := Lib.hid hhd
      clear hu hv hhd
      go_wp2_with fail
      have e2 : ((i : Int) + (j : Int)) / 2 = (hh : Int) := by have := HH.out; omega
      rw [e2]
      clear e2
      have b1 : (hh : Int) < (N : Int) := by have := HH.out; omega
      have b2 : (x : Int) < (N : Int) := by omega
      refine wp_region_still_tail 9 (by kernel_rfl) (by kernel_rfl) ?_
      simp only [List.take_succ_cons, List.take_zero, List.drop_succ_cons, List.drop_zero]
      change wpStill _ _ (World.drew _) _ _ _
      repeat still_step
      refine wpStill_nil ?_
      change wpList _ _ _ _ _ (World.drew _)
      go_wp2_with fail
      refine (stands_is _ _ _ _ _ _ _).mono ?_
      rintro e w2 ⟨_, rfl, rfl, h2⟩
      have h2' : Fr0 wr w2 := Fr.trans (fr_drew _ wr) h2 (fun _ _ x => x)
      have ha2 : ArrAt w2 b arr tail := h2'.heap' ha
      generalize standsI u.f u.t v.f v.t = c at hdec ⊢
      by_cases hle : leA v u
      · have hc0 : 0 ≤ c := by
          by_cases hh : c < 0
          · exact absurd hle (hdec.1 hh)
          · omega
        have hcb : decide (c < 0) = false := by simp; omega
        have HLE := Lib.hid hle
        clear hdec hle
        go_wp2
        go_roundw
        case rel =>
          have hhe := HH.out
          refine ⟨i, hh, by omega, by omega, by omega, rfl, rfl, (by rw [← HV.out]; exact HA), Lib.hid ?_, ha2, hf.trans0 h2'⟩
          intro k k1 k2
          by_cases e : k = hh
          · rw [e, HU.out]; exact HLE.out
          · have := HS.out hh k (by omega) (by omega) k2
            rw [HU.out] at this
            exact leA_trans HLE.out this
        case measure => have := HH.out; simp [intOf]; omega
      · have hc0 : c < 0 := hdec.2 hle
        have hcb : decide (c < 0) = true := by simp; omega
        have HLE := Lib.hid hle
        clear hdec hle
        go_wp2
        go_roundw
        case rel =>
          have hhe := HH.out
          refine ⟨hh + 1, j, by omega, by omega, by omega, by go_num, rfl, Lib.hid ?_, (by rw [← HV.out]; exact HB), ha2, hf.trans0 h2'⟩
          intro k k1 k2 hk
          by_cases e : k = hh
          · rw [e, HU.out] at hk; exact HLE.out hk
          · have := HS.out k hh (by omega) (by omega) (by omega)
            rw [HU.out] at this
            exact HLE.out (leA_trans hk this)
        case measure => have := HH.out; simp [intOf]; omega
    · have hij : i = j := by omega
      subst hij
      go_wp2
      obtain ⟨wo, rfl⟩ : ∃ wo : World, wo = wr := ⟨_, rfl⟩
      go_loopw [13] (fun vk wr => ∃ (k : Nat) (cur : List ArcI), x ≤ k ∧ k ≤ i - 1 ∧ vk = .int .i64 k ∧ Hid (ShiftL arr cur x k) ∧ Hid (Shuf arr cur x y) ∧ ArrAt wr b cur tail ∧ Fr (fun k => k = b) W wr) (fun vk _ => i - (intOf vk).toNat)
      case atStart => exact ⟨x, arr, Nat.le_refl _, by omega, rfl, Lib.hid (ShiftL.start _ _), Lib.hid (Shuf.refl _ _ _), ha, hf⟩
      case round =>
        obtain ⟨k, cur, hk1, hk2, rfl, HSL, HSH, ha, hf⟩ := hrel
        have hcN : cur.length = N := HSH.out.len.trans HN.out
        by_cases hkl : k < i - 1
        · obtain ⟨c1, c2, c3⟩ := ha.arc (j := k) (by omega)
          obtain ⟨d1, d2, d3⟩ := ha.arc (j := k + 1) (by omega)
          have hst := swp_set3 ha (p := k) (q := k + 1) (by omega) (by omega)
          generalize hu : cur.getD k default = u at c1 c2 c3 hst
          generalize hv : cur.getD (k + 1) default = v at d1 d2 d3 hst
          have HST := Lib.hid hst
          have f1 := ha.frozen (k * 3)
          have f2 := ha.frozen (k * 3 + 1)
          have f3 := ha.frozen (k * 3 + 2)
          have g1 := ha.frozen ((k + 1) * 3)
          have g2 := ha.frozen ((k + 1) * 3 + 1)
          have g3 := ha.frozen ((k + 1) * 3 + 2)
          obtain ⟨n00, n01, n02, n10, n11, n12, n20, n21, n22⟩ := apart9 (p := k) (q := k + 1) (by omega)
          have hsh := Lib.hid (HSH.out.swp (p := k) (q := k + 1) (by omega) (by omega) (by omega) (by omega) (by have := HN.out; omega))
          have hsl := Lib.hid (HSL.out.step hk1 HSH.out.len (by have := HN.out; omega))
          clear hst hu hv hcN
          have b1 : (k : Int) < (N : Int) := by omega
          have b2 : (k : Int) + 1 < (N : Int) := by omega
          have b3 : (k : Int) < (i : Int) - 1 := by omega
          have ht : ((k : Int) + 1).toNat = k + 1 := by omega
          go_wp2_with fail
          go_region
          go_wp2
          go_roundw
          case rel => exact ⟨k + 1, swp cur k (k + 1), by omega, by omega, by go_num, hsl, hsh, HST.out, hf.trans (fr_swp _ b _ _ v u) (fun _ _ e => e)⟩
          case measure => simp [intOf]; omega
        · have b3 : ¬ ((k : Int) < (i : Int) - 1) := by omega
          go_wp2
          go_end0
          refine ⟨_, rfl, rfl, hf, cur, HSH.out, ?_, ha⟩
          have e : k = i - 1 := by omega
          have h1 := HSL.out
          rw [e] at h1
          exact h1.sorted hi hj HS.out HA.out HB.out
end Go.Proofs.Ytidpmbbkpclccaa
