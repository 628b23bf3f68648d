/- MergeA, MergeB, MergePure, in one text. -/
import Derived.Test.YtdcjfpjpboafnaaDoorInsert
namespace Go.Proofs.YtdcjfpjpboafnaaDoor
set_option linter.all false
open Go.RowKit
set_option maxRecDepth 100000

/-- The element of x has come to k, those between one place down. -/
def ShiftL (arr cur : List ArcI) (x k : Nat) : Prop := ∀ p, cur[p]? = if x ≤ p ∧ p < k then arr[p + 1]? else if p = k then arr[x]? else arr[p]?
theorem ShiftL.start (arr : List ArcI) (x : Nat) : ShiftL arr arr x x := fun p => by
  rw [if_neg (by omega)]; split
  · rename_i h; rw [h]
  · rfl
theorem ShiftL.step {arr cur : List ArcI} {x k : Nat} (h : ShiftL arr cur x k) (hx : x ≤ k) (hl : cur.length = arr.length) (hk : k + 1 < arr.length) : ShiftL arr (swp cur k (k + 1)) x (k + 1) := by
  intro p
  rw [swp_get (by omega) (by omega), h, h, h]
  have B1 : ¬ (x ≤ k ∧ k < k) := by omega
  have B2 : ¬ (x ≤ k + 1 ∧ k + 1 < k) := by omega
  rw [if_neg B1, if_pos rfl, if_neg B2, if_neg (show ¬ k + 1 = k by omega)]
  by_cases h1 : p = k + 1
  · have B : ¬ (x ≤ p ∧ p < k + 1) := by omega
    rw [if_pos h1, if_neg B, if_pos h1]
  · rw [if_neg h1]
    by_cases h2 : p = k
    · have B : x ≤ p ∧ p < k + 1 := by omega
      rw [if_pos h2, if_pos B, h2]
    · rw [if_neg h2, if_neg h2, if_neg h1]
      by_cases h3 : x ≤ p ∧ p < k
      · have B : x ≤ p ∧ p < k + 1 := by omega
        rw [if_pos h3, if_pos B]
      · have B : ¬ (x ≤ p ∧ p < k + 1) := by omega
        rw [if_neg h3, if_neg B]
theorem ShiftL.sorted {arr cur : List ArcI} {x y i : Nat} (h : ShiftL arr cur x (i - 1)) (hi : x + 1 ≤ i) (hiy : i ≤ y) (hs : SortedOn arr (x + 1) y)
    (h1 : ∀ k, x + 1 ≤ k → k < i → ¬ leA (arr.getD x default) (arr.getD k default)) (h2 : ∀ k, i ≤ k → k < y → leA (arr.getD x default) (arr.getD k default)) : SortedOn cur x y := by
  have g : ∀ p, cur.getD p default = if x ≤ p ∧ p < i - 1 then arr.getD (p + 1) default else if p = i - 1 then arr.getD x default else arr.getD p default := by
    intro p
    rw [List.getD_eq_getElem?_getD, h p]
    split
    · simp [List.getD_eq_getElem?_getD]
    · split <;> simp [List.getD_eq_getElem?_getD]
  intro p q hp hpq hq
  rw [g, g]
  by_cases p1 : x ≤ p ∧ p < i - 1
  · rw [if_pos p1]
    by_cases q1 : x ≤ q ∧ q < i - 1
    · rw [if_pos q1]; exact hs _ _ (by omega) (by omega) (by omega)
    · rw [if_neg q1]
      by_cases q2 : q = i - 1
      · rw [if_pos q2]; exact (leA_total _ _).resolve_left (h1 (p + 1) (by omega) (by omega))
      · rw [if_neg q2]; exact hs _ _ (by omega) (by omega) hq
  · rw [if_neg p1]
    have q1 : ¬ (x ≤ q ∧ q < i - 1) := by omega
    rw [if_neg q1, if_neg (show ¬ q = i - 1 by omega)]
    by_cases p2 : p = i - 1
    · rw [if_pos p2]; exact h2 q (by omega) hq
    · rw [if_neg p2]; exact hs _ _ (by omega) hpq hq

set_option maxHeartbeats 1600000 in
theorem symMerge_A {W : World} {b cap N : Nat} {arr : List ArcI} {tail : List Value} (h : ArrAt W b arr tail) (hN : arr.length = N) (hlen : N ≤ 17592186044416) (xi mi yi : Int) (x y : Nat) (hxi : xi = x) (hmi : mi = (x : Int) + 1) (hyi : yi = y) (hxy : x + 1 < y) (hy : y ≤ N)
    (hs : SortedOn arr (x + 1) y) :
    Calls Tryd.prog 83 #[.slice (some ⟨b, 0, none⟩) N cap, .int .i64 xi, .int .i64 mi, .int .i64 yi, .func (.func 62) #[] #[]] W (Rets (SortPost W b tail arr x y)) := by
  subst hxi hmi hyi
  have hen := stands_enters
  have HN := Lib.hid hN
  have HS := Lib.hid hs
  clear hN hs
  have hb : ((x : Int) + 1 - (x : Int) == 1) = true := by simp; omega
  go_enter Tryd.func83, Tryd.ntmps83
  go_wp2
  go_loopw [10, 11] (fun vi vj wr => ∃ (i j : Nat), x + 1 ≤ i ∧ i ≤ j ∧ j ≤ y ∧ vi = .int .i64 i ∧ vj = .int .i64 j ∧ Hid (∀ k, x + 1 ≤ k → k < i → ¬ leA (arr.getD x default) (arr.getD k default)) ∧ Hid (∀ k, j ≤ k → k < y → leA (arr.getD x default) (arr.getD k default)) ∧ ArrAt wr b arr tail ∧ Fr (fun k => k = b) W wr) (fun vi vj _ => (intOf vj).toNat - (intOf vi).toNat)
  case atStart => exact ⟨x + 1, y, by omega, by omega, by omega, by go_num, rfl, Lib.hid (fun k h1 h2 => by omega), Lib.hid (fun k h1 h2 => by omega), h, Fr.refl _ _⟩
  case round =>
    obtain ⟨i, j, hi, hij, hj, rfl, rfl, HA, HB, ha, hf⟩ := hrel
    by_cases hlt : i < j
    · obtain ⟨hh, hhd⟩ : ∃ hh : Nat, hh = (i + j) / 2 := ⟨_, rfl⟩
      obtain ⟨c1, c2, c3⟩ := ha.arc (j := hh) (by have := HN.out; omega)
      obtain ⟨d1, d2, d3⟩ := ha.arc (j := x) (by have := HN.out; omega)
      have hdec := standsI_lt (arr.getD hh default) (arr.getD x default)
      generalize hu : arr.getD hh default = u at c1 c2 c3 hdec
      generalize hv : arr.getD x default = v at d1 d2 d3 hdec
      have HU := Lib.hid hu
      have HV := Lib.hid hv
      have HH := Lib.hid hhd
      clear hu hv hhd
      go_wp2_with fail
      have e2 : ((i : Int) + (j : Int)) / 2 = (hh : Int) := by have := HH.out; omega
      rw [e2]
      clear e2
      have b1 : (hh : Int) < (N : Int) := by have := HH.out; omega
      have b2 : (x : Int) < (N : Int) := by omega
      refine wp_region_still_tail 9 (by kernel_rfl) (by kernel_rfl) ?_
      simp only [List.take_succ_cons, List.take_zero, List.drop_succ_cons, List.drop_zero]
      change wpStill _ _ (World.drew _) _ _ _
      repeat still_step
      refine wpStill_nil ?_
      change wpList _ _ _ _ _ (World.drew _)
      go_wp2_with fail
      refine (stands_is _ _ _ _ _ _ _).mono ?_
      rintro e w2 ⟨_, rfl, rfl, h2⟩
      have h2' : Fr0 wr w2 := Fr.trans (fr_drew _ wr) h2 (fun _ _ x => x)
      have ha2 : ArrAt w2 b arr tail := h2'.heap' ha
      generalize standsI u.f u.t v.f v.t = c at hdec ⊢
      by_cases hle : leA v u
      · have hc0 : 0 ≤ c := by
          by_cases hh : c < 0
          · exact absurd hle (hdec.1 hh)
          · omega
        have hcb : decide (c < 0) = false := by simp; omega
        have HLE := Lib.hid hle
        clear hdec hle
        go_wp2
        go_roundw
        case rel =>
          have hhe := HH.out
          refine ⟨i, hh, by omega, by omega, by omega, rfl, rfl, (by rw [← HV.out]; exact HA), Lib.hid ?_, ha2, hf.trans0 h2'⟩
          intro k k1 k2
          by_cases e : k = hh
          · rw [e, HU.out]; exact HLE.out
          · have := HS.out hh k (by omega) (by omega) k2
            rw [HU.out] at this
            exact leA_trans HLE.out this
        case measure => have := HH.out; simp [intOf]; omega
      · have hc0 : c < 0 := hdec.2 hle
        have hcb : decide (c < 0) = true := by simp; omega
        have HLE := Lib.hid hle
        clear hdec hle
        go_wp2
        go_roundw
        case rel =>
          have hhe := HH.out
          refine ⟨hh + 1, j, by omega, by omega, by omega, by go_num, rfl, Lib.hid ?_, (by rw [← HV.out]; exact HB), ha2, hf.trans0 h2'⟩
          intro k k1 k2 hk
          by_cases e : k = hh
          · rw [e, HU.out] at hk; exact HLE.out hk
          · have := HS.out k hh (by omega) (by omega) (by omega)
            rw [HU.out] at this
            exact HLE.out (leA_trans hk this)
        case measure => have := HH.out; simp [intOf]; omega
    · have hij : i = j := by omega
      subst hij
      go_wp2
      obtain ⟨wo, rfl⟩ : ∃ wo : World, wo = wr := ⟨_, rfl⟩
      go_loopw [13] (fun vk wr => ∃ (k : Nat) (cur : List ArcI), x ≤ k ∧ k ≤ i - 1 ∧ vk = .int .i64 k ∧ Hid (ShiftL arr cur x k) ∧ Hid (Shuf arr cur x y) ∧ ArrAt wr b cur tail ∧ Fr (fun k => k = b) W wr) (fun vk _ => i - (intOf vk).toNat)
      case atStart => exact ⟨x, arr, Nat.le_refl _, by omega, rfl, Lib.hid (ShiftL.start _ _), Lib.hid (Shuf.refl _ _ _), ha, hf⟩
      case round =>
        obtain ⟨k, cur, hk1, hk2, rfl, HSL, HSH, ha, hf⟩ := hrel
        have hcN : cur.length = N := HSH.out.len.trans HN.out
        by_cases hkl : k < i - 1
        · obtain ⟨c1, c2, c3⟩ := ha.arc (j := k) (by omega)
          obtain ⟨d1, d2, d3⟩ := ha.arc (j := k + 1) (by omega)
          have hst := swp_set3 ha (p := k) (q := k + 1) (by omega) (by omega)
          generalize hu : cur.getD k default = u at c1 c2 c3 hst
          generalize hv : cur.getD (k + 1) default = v at d1 d2 d3 hst
          have HST := Lib.hid hst
          have f1 := ha.frozen (k * 3)
          have f2 := ha.frozen (k * 3 + 1)
          have f3 := ha.frozen (k * 3 + 2)
          have g1 := ha.frozen ((k + 1) * 3)
          have g2 := ha.frozen ((k + 1) * 3 + 1)
          have g3 := ha.frozen ((k + 1) * 3 + 2)
          obtain ⟨n00, n01, n02, n10, n11, n12, n20, n21, n22⟩ := apart9 (p := k) (q := k + 1) (by omega)
          have hsh := Lib.hid (HSH.out.swp (p := k) (q := k + 1) (by omega) (by omega) (by omega) (by omega) (by have := HN.out; omega))
          have hsl := Lib.hid (HSL.out.step hk1 HSH.out.len (by have := HN.out; omega))
          clear hst hu hv hcN
          have b1 : (k : Int) < (N : Int) := by omega
          have b2 : (k : Int) + 1 < (N : Int) := by omega
          have b3 : (k : Int) < (i : Int) - 1 := by omega
          have ht : ((k : Int) + 1).toNat = k + 1 := by omega
          go_wp2_with fail
          go_region
          go_wp2
          go_roundw
          case rel => exact ⟨k + 1, swp cur k (k + 1), by omega, by omega, by go_num, hsl, hsh, HST.out, hf.trans (fr_swp _ b _ _ v u) (fun _ _ e => e)⟩
          case measure => simp [intOf]; omega
        · have b3 : ¬ ((k : Int) < (i : Int) - 1) := by omega
          go_wp2
          go_end0
          refine ⟨_, rfl, rfl, hf, cur, HSH.out, ?_, ha⟩
          have e : k = i - 1 := by omega
          have h1 := HSL.out
          rw [e] at h1
          exact h1.sorted hi hj HS.out HA.out HB.out
end Go.Proofs.YtdcjfpjpboafnaaDoor
namespace Go.Proofs.YtdcjfpjpboafnaaDoor
set_option linter.all false
open Go.RowKit
set_option maxRecDepth 100000

/-- The element of m has come down to k, those between one place up. -/
def ShiftR (arr cur : List ArcI) (m k : Nat) : Prop := ∀ p, cur[p]? = if k < p ∧ p ≤ m then arr[p - 1]? else if p = k then arr[m]? else arr[p]?
theorem ShiftR.start (arr : List ArcI) (m : Nat) : ShiftR arr arr m m := fun p => by
  rw [if_neg (by omega)]; split
  · rename_i h; rw [h]
  · rfl
theorem ShiftR.step {arr cur : List ArcI} {m k : Nat} (h : ShiftR arr cur m k) (hk : k ≤ m) (hk0 : 0 < k) (hl : cur.length = arr.length) (hm : m < arr.length) : ShiftR arr (swp cur k (k - 1)) m (k - 1) := by
  intro p
  rw [swp_get (by omega) (by omega), h, h, h]
  have B1 : ¬ (k < k ∧ k ≤ m) := by omega
  have B2 : ¬ (k < k - 1 ∧ k - 1 ≤ m) := by omega
  rw [if_neg B1, if_pos rfl, if_neg B2, if_neg (show ¬ k - 1 = k by omega)]
  by_cases h1 : p = k - 1
  · have B : ¬ (k - 1 < p ∧ p ≤ m) := by omega
    rw [if_pos h1, if_neg B, if_pos h1]
  · rw [if_neg h1]
    by_cases h2 : p = k
    · have B : k - 1 < p ∧ p ≤ m := by omega
      rw [if_pos h2, if_pos B, h2]
    · rw [if_neg h2, if_neg h2, if_neg h1]
      by_cases h3 : k < p ∧ p ≤ m
      · have B : k - 1 < p ∧ p ≤ m := by omega
        rw [if_pos h3, if_pos B]
      · have B : ¬ (k - 1 < p ∧ p ≤ m) := by omega
        rw [if_neg h3, if_neg B]
theorem ShiftR.sorted {arr cur : List ArcI} {x m i : Nat} (h : ShiftR arr cur m i) (hi : x ≤ i) (him : i ≤ m) (hs : SortedOn arr x m)
    (h1 : ∀ k, x ≤ k → k < i → leA (arr.getD k default) (arr.getD m default)) (h2 : ∀ k, i ≤ k → k < m → ¬ leA (arr.getD k default) (arr.getD m default)) : SortedOn cur x (m + 1) := by
  have g : ∀ p, cur.getD p default = if i < p ∧ p ≤ m then arr.getD (p - 1) default else if p = i then arr.getD m default else arr.getD p default := by
    intro p
    rw [List.getD_eq_getElem?_getD, h p]
    split
    · simp [List.getD_eq_getElem?_getD]
    · split <;> simp [List.getD_eq_getElem?_getD]
  intro p q hp hpq hq
  rw [g, g]
  by_cases q1 : i < q ∧ q ≤ m
  · rw [if_pos q1]
    by_cases p1 : i < p ∧ p ≤ m
    · rw [if_pos p1]; exact hs _ _ (by omega) (by omega) (by omega)
    · rw [if_neg p1]
      by_cases p2 : p = i
      · rw [if_pos p2]; exact (leA_total _ _).resolve_right (h2 (q - 1) (by omega) (by omega))
      · rw [if_neg p2]; exact hs _ _ hp (by omega) (by omega)
  · rw [if_neg q1]
    have p1 : ¬ (i < p ∧ p ≤ m) := by omega
    rw [if_neg p1, if_neg (show ¬ p = i by omega)]
    by_cases q2 : q = i
    · rw [if_pos q2]; exact h1 p hp (by omega)
    · rw [if_neg q2]; exact hs _ _ hp hpq (by omega)
set_option maxHeartbeats 1600000 in
theorem symMerge_B {W : World} {b cap N : Nat} {arr : List ArcI} {tail : List Value} (h : ArrAt W b arr tail) (hN : arr.length = N) (hlen : N ≤ 17592186044416) (xi mi yi : Int) (x : Nat) (hxi : xi = x) (m : Nat) (hmi : mi = m) (hyi : yi = (m : Int) + 1) (hxm : x + 1 < m) (hy : m + 1 ≤ N)
    (hs : SortedOn arr x m) :
    Calls Tryd.prog 83 #[.slice (some ⟨b, 0, none⟩) N cap, .int .i64 xi, .int .i64 mi, .int .i64 yi, .func (.func 62) #[] #[]] W (Rets (SortPost W b tail arr x (m + 1))) := by
  subst hxi hmi hyi
  have hen := stands_enters
  have HN := Lib.hid hN
  have HS := Lib.hid hs
  clear hN hs
  have hb : ((m : Int) - (x : Int) == 1) = false := by simp; omega
  have hb2 : ((m : Int) + 1 - (m : Int) == 1) = true := by simp; omega
  go_enter Tryd.func83, Tryd.ntmps83
  go_wp2
  go_loopw [14, 15] (fun vi vj wr => ∃ (i j : Nat), x ≤ i ∧ i ≤ j ∧ j ≤ m ∧ vi = .int .i64 i ∧ vj = .int .i64 j ∧ Hid (∀ k, x ≤ k → k < i → leA (arr.getD k default) (arr.getD m default)) ∧ Hid (∀ k, j ≤ k → k < m → ¬ leA (arr.getD k default) (arr.getD m default)) ∧ ArrAt wr b arr tail ∧ Fr (fun k => k = b) W wr) (fun vi vj _ => (intOf vj).toNat - (intOf vi).toNat)
  case atStart => exact ⟨x, m, by omega, by omega, by omega, rfl, rfl, Lib.hid (fun k h1 h2 => by omega), Lib.hid (fun k h1 h2 => by omega), h, Fr.refl _ _⟩
  case round =>
    obtain ⟨i, j, hi, hij, hj, rfl, rfl, HA, HB, ha, hf⟩ := hrel
    by_cases hlt : i < j
    · obtain ⟨hh, hhd⟩ : ∃ hh : Nat, hh = (i + j) / 2 := ⟨_, rfl⟩
      obtain ⟨c1, c2, c3⟩ := ha.arc (j := m) (by have := HN.out; omega)
      obtain ⟨d1, d2, d3⟩ := ha.arc (j := hh) (by have := HN.out; omega)
      have hdec := standsI_lt (arr.getD m default) (arr.getD hh default)
      generalize hu : arr.getD m default = u at c1 c2 c3 hdec
      generalize hv : arr.getD hh default = v at d1 d2 d3 hdec
      have HU := Lib.hid hu
      have HV := Lib.hid hv
      have HH := Lib.hid hhd
      clear hu hv hhd
      go_wp2_with fail
      have e2 : ((i : Int) + (j : Int)) / 2 = (hh : Int) := by have := HH.out; omega
      rw [e2]
      clear e2
      have b1 : (hh : Int) < (N : Int) := by have := HH.out; omega
      have b2 : (m : Int) < (N : Int) := by omega
      refine wp_region_still_tail 9 (by kernel_rfl) (by kernel_rfl) ?_
      simp only [List.take_succ_cons, List.take_zero, List.drop_succ_cons, List.drop_zero]
      change wpStill _ _ (World.drew _) _ _ _
      repeat still_step
      refine wpStill_nil ?_
      change wpList _ _ _ _ _ (World.drew _)
      go_wp2_with fail
      refine (stands_is _ _ _ _ _ _ _).mono ?_
      rintro e w2 ⟨_, rfl, rfl, h2⟩
      have h2' : Fr0 wr w2 := Fr.trans (fr_drew _ wr) h2 (fun _ _ x => x)
      have ha2 : ArrAt w2 b arr tail := h2'.heap' ha
      generalize standsI u.f u.t v.f v.t = c at hdec ⊢
      by_cases hle : leA v u
      · have hc0 : 0 ≤ c := by
          by_cases hh : c < 0
          · exact absurd hle (hdec.1 hh)
          · omega
        have hcb : decide (c < 0) = false := by simp; omega
        have HLE := Lib.hid hle
        clear hdec hle
        go_wp2
        go_roundw
        case rel =>
          have hhe := HH.out
          refine ⟨hh + 1, j, by omega, by omega, by omega, by go_num, rfl, Lib.hid ?_, (by rw [← HU.out]; exact HB), ha2, hf.trans0 h2'⟩
          intro k k1 k2
          by_cases e : k = hh
          · rw [e, HV.out]; exact HLE.out
          · have := HS.out k hh (by omega) (by omega) (by omega)
            rw [HV.out] at this
            exact leA_trans this HLE.out
        case measure => have := HH.out; simp [intOf]; omega
      · have hc0 : c < 0 := hdec.2 hle
        have hcb : decide (c < 0) = true := by simp; omega
        have HLE := Lib.hid hle
        clear hdec hle
        go_wp2
        go_roundw
        case rel =>
          have hhe := HH.out
          refine ⟨i, hh, by omega, by omega, by omega, rfl, rfl, (by rw [← HU.out]; exact HA), Lib.hid ?_, ha2, hf.trans0 h2'⟩
          intro k k1 k2 hk
          by_cases e : k = hh
          · rw [e, HV.out] at hk; exact HLE.out hk
          · have := HS.out hh k (by omega) (by omega) (by omega)
            rw [HV.out] at this
            exact HLE.out (leA_trans this hk)
        case measure => have := HH.out; simp [intOf]; omega
    · have hij : i = j := by omega
      subst hij
      go_wp2
      obtain ⟨wo, rfl⟩ : ∃ wo : World, wo = wr := ⟨_, rfl⟩
      go_loopw [17] (fun vk wr => ∃ (k : Nat) (cur : List ArcI), i ≤ k ∧ k ≤ m ∧ vk = .int .i64 k ∧ Hid (ShiftR arr cur m k) ∧ Hid (Shuf arr cur x (m + 1)) ∧ ArrAt wr b cur tail ∧ Fr (fun k => k = b) W wr) (fun vk _ => (intOf vk).toNat)
      case atStart => exact ⟨m, arr, by omega, Nat.le_refl _, rfl, Lib.hid (ShiftR.start _ _), Lib.hid (Shuf.refl _ _ _), ha, hf⟩
      case round =>
        obtain ⟨k, cur, hk1, hk2, rfl, HSL, HSH, ha, hf⟩ := hrel
        have hcN : cur.length = N := HSH.out.len.trans HN.out
        by_cases hkl : i < k
        · obtain ⟨c1, c2, c3⟩ := ha.arc (j := k) (by omega)
          obtain ⟨d1, d2, d3⟩ := ha.arc (j := k - 1) (by omega)
          have hst := swp_set3 ha (p := k) (q := k - 1) (by omega) (by omega)
          generalize hu : cur.getD k default = u at c1 c2 c3 hst
          generalize hv : cur.getD (k - 1) default = v at d1 d2 d3 hst
          have HST := Lib.hid hst
          have f1 := ha.frozen (k * 3)
          have f2 := ha.frozen (k * 3 + 1)
          have f3 := ha.frozen (k * 3 + 2)
          have g1 := ha.frozen ((k - 1) * 3)
          have g2 := ha.frozen ((k - 1) * 3 + 1)
          have g3 := ha.frozen ((k - 1) * 3 + 2)
          obtain ⟨n00, n01, n02, n10, n11, n12, n20, n21, n22⟩ := apart9 (p := k) (q := k - 1) (by omega)
          have hsh := Lib.hid (HSH.out.swp (p := k) (q := k - 1) (by omega) (by omega) (by omega) (by omega) (by have := HN.out; omega))
          have hsl := Lib.hid (HSL.out.step hk2 (by omega) HSH.out.len (by have := HN.out; omega))
          clear hst hu hv hcN
          have b1 : (k : Int) < (N : Int) := by omega
          have b2 : (k : Int) - 1 < (N : Int) := by omega
          have b3 : (i : Int) < (k : Int) := by omega
          have b4 : (1 : Int) ≤ (k : Int) := by omega
          have b5 : (0 : Int) ≤ (k : Int) - 1 := by omega
          have ht : ((k : Int) - 1).toNat = k - 1 := by omega
          go_wp2_with fail
          have hw : IntKind.i64.wrap ((k : Int) - 1) = (k : Int) - 1 := by rw [IntKind.wrap_i64]; omega
          go_region
          clear hw
          go_wp2
          go_roundw
          case rel => exact ⟨k - 1, swp cur k (k - 1), by omega, by omega, int_eq (by omega), hsl, hsh, HST.out, hf.trans (fr_swp _ b _ _ v u) (fun _ _ e => e)⟩
          case measure => simp [intOf]; omega
        · have b3 : ¬ ((i : Int) < (k : Int)) := by omega
          go_wp2
          go_end0
          refine ⟨_, rfl, rfl, hf, cur, HSH.out, ?_, ha⟩
          have e : k = i := by omega
          have h1 := HSL.out
          rw [e] at h1
          exact h1.sorted hi hj HS.out HA.out HB.out
end Go.Proofs.YtdcjfpjpboafnaaDoor
namespace Go.Proofs.YtdcjfpjpboafnaaDoor
set_option linter.all false

def rotT (arr : List ArcI) (s m e : Nat) : List ArcI := arr.take s ++ (arr.drop m).take (e - m) ++ (arr.drop s).take (m - s) ++ arr.drop e
theorem cut4 (arr : List ArcI) {s m e : Nat} (h1 : s ≤ m) (h2 : m ≤ e) (h3 : e ≤ arr.length) : arr = arr.take s ++ (arr.drop s).take (m - s) ++ (arr.drop m).take (e - m) ++ arr.drop e := by
  apply List.ext_getElem?
  intro k
  simp only [List.getElem?_append, List.length_append, List.length_take, List.length_drop, List.getElem?_take, List.getElem?_drop]
  repeat' split
  all_goals first | rfl | omega | (congr 1; omega) | (rw [List.getElem?_eq_none (by omega)]; done) | (rw [List.getElem?_eq_none (by omega), List.getElem?_eq_none (by omega)])
theorem rotT_inv (arr : List ArcI) {s m e : Nat} (h1 : s ≤ m) (h2 : m ≤ e) (h3 : e ≤ arr.length) : RotInv m (rotT arr s m e) arr (m - s) (e - m) :=
  ⟨arr.take s, (arr.drop s).take (m - s), (arr.drop m).take (e - m), arr.drop e, cut4 arr h1 h2 h3, rfl, by rw [List.length_take]; omega, by rw [List.length_take, List.length_drop]; omega, by rw [List.length_take, List.length_drop]; omega⟩
theorem rotT_get (arr : List ArcI) {s m e : Nat} (h1 : s ≤ m) (h2 : m ≤ e) (h3 : e ≤ arr.length) (p : Nat) :
    (rotT arr s m e)[p]? = if p < s then arr[p]? else if p < s + (e - m) then arr[m + (p - s)]? else if p < e then arr[s + (p - (s + (e - m)))]? else arr[p]? := by
  unfold rotT
  simp only [List.getElem?_append, List.length_append, List.length_take, List.length_drop, List.getElem?_take, List.getElem?_drop]
  repeat' split
  all_goals first | rfl | omega | (congr 1; omega) | (rw [List.getElem?_eq_none (by omega)]; done) | (rw [List.getElem?_eq_none (by omega), List.getElem?_eq_none (by omega)])
theorem rotT_getD (arr : List ArcI) {s m e : Nat} (h1 : s ≤ m) (h2 : m ≤ e) (h3 : e ≤ arr.length) (p : Nat) :
    (rotT arr s m e).getD p default = if p < s then arr.getD p default else if p < s + (e - m) then arr.getD (m + (p - s)) default else if p < e then arr.getD (s + (p - (s + (e - m)))) default else arr.getD p default := by
  rw [List.getD_eq_getElem?_getD, rotT_get arr h1 h2 h3]
  repeat' split
  all_goals simp [List.getD_eq_getElem?_getD]
theorem rotT_shuf (arr : List ArcI) {x y s m e : Nat} (hx : x ≤ s) (h1 : s ≤ m) (h2 : m ≤ e) (hy : e ≤ y) (h3 : e ≤ arr.length) : Shuf arr (rotT arr s m e) x y := by
  refine ⟨?_, fun k hk => ?_, fun k hk => ?_⟩
  · have h := cut4 arr h1 h2 h3
    have hp : (rotT arr s m e).Perm (arr.take s ++ (arr.drop s).take (m - s) ++ (arr.drop m).take (e - m) ++ arr.drop e) := by
      unfold rotT
      refine List.Perm.append_right _ ?_
      rw [List.append_assoc, List.append_assoc]
      exact List.Perm.append_left _ List.perm_append_comm
    rwa [← h] at hp
  · rw [rotT_get arr h1 h2 h3, if_pos (by omega)]
  · rw [rotT_get arr h1 h2 h3, if_neg (by omega), if_neg (by omega), if_neg (by omega)]
theorem merge_halves {arr : List ArcI} {x m y s e : Nat} (hx : x ≤ s) (h1 : s ≤ m) (h2 : m ≤ e) (hy : e ≤ y) (h3 : y ≤ arr.length) (s1 : SortedOn arr x m) (s2 : SortedOn arr m y)
    (F1 : ∀ c q, x ≤ c → c < s → e ≤ q → q < y → leA (arr.getD c default) (arr.getD q default)) (F2 : ∀ c q, s ≤ c → c < m → m ≤ q → q < e → leA (arr.getD q default) (arr.getD c default)) :
    SortedOn (rotT arr s m e) x s ∧ SortedOn (rotT arr s m e) s (s + (e - m)) ∧ SortedOn (rotT arr s m e) (s + (e - m)) e ∧ SortedOn (rotT arr s m e) e y ∧
    ∀ p q, x ≤ p → p < s + (e - m) → s + (e - m) ≤ q → q < y → leA ((rotT arr s m e).getD p default) ((rotT arr s m e).getD q default) := by
  have g := rotT_getD arr h1 h2 (Nat.le_trans hy h3)
  refine ⟨fun p q a b c => ?_, fun p q a b c => ?_, fun p q a b c => ?_, fun p q a b c => ?_, fun p q a b c d => ?_⟩
  · rw [g, g, if_pos (by omega), if_pos c]; exact s1 p q a b (by omega)
  · rw [g, g, if_neg (show ¬ p < s by omega), if_pos (show p < s + (e - m) by omega), if_neg (show ¬ q < s by omega), if_pos c]; exact s2 _ _ (by omega) (by omega) (by omega)
  · rw [g, g, if_neg (show ¬ p < s by omega), if_neg (show ¬ p < s + (e - m) by omega), if_pos (show p < e by omega), if_neg (show ¬ q < s by omega), if_neg (show ¬ q < s + (e - m) by omega), if_pos c]; exact s1 _ _ (by omega) (by omega) (by omega)
  · rw [g, g, if_neg (by omega), if_neg (by omega), if_neg (by omega), if_neg (by omega), if_neg (by omega), if_neg (by omega)]; exact s2 _ _ (by omega) b c
  · rw [g, g, if_neg (show ¬ q < s by omega), if_neg (show ¬ q < s + (e - m) by omega)]
    by_cases p1 : p < s
    · rw [if_pos p1]
      by_cases q1 : q < e
      · rw [if_pos q1]; exact s1 _ _ a (by omega) (by omega)
      · rw [if_neg q1]; exact F1 p q a p1 (by omega) d
    · rw [if_neg p1, if_pos b]
      by_cases q1 : q < e
      · rw [if_pos q1]; exact F2 _ _ (by omega) (by omega) (by omega) (by omega)
      · rw [if_neg q1]; exact s2 _ _ (by omega) (by omega) d
theorem cut3 (l : List ArcI) {x y : Nat} (h : x ≤ y) (hy : y ≤ l.length) : l = l.take x ++ (l.drop x).take (y - x) ++ l.drop y := by
  apply List.ext_getElem?
  intro k
  simp only [List.getElem?_append, List.length_append, List.length_take, List.length_drop, List.getElem?_take, List.getElem?_drop]
  repeat' split
  all_goals first | rfl | omega | (congr 1; omega) | (rw [List.getElem?_eq_none (by omega)]; done) | (rw [List.getElem?_eq_none (by omega), List.getElem?_eq_none (by omega)])
theorem Shuf.seg {a b : List ArcI} {x y : Nat} (h : Shuf a b x y) (hxy : x ≤ y) (hy : y ≤ a.length) : ((b.drop x).take (y - x)).Perm ((a.drop x).take (y - x)) := by
  have e1 : b.take x = a.take x := by
    apply List.ext_getElem?
    intro k
    rw [List.getElem?_take, List.getElem?_take]
    split
    · exact h.pre k (by assumption)
    · rfl
  have e2 : b.drop y = a.drop y := by
    apply List.ext_getElem?
    intro k
    rw [List.getElem?_drop, List.getElem?_drop]
    exact h.post _ (by omega)
  have hp := h.perm
  rw [cut3 a hxy hy, cut3 b hxy (by rw [h.len]; exact hy), e1, e2, List.perm_append_right_iff, List.perm_append_left_iff] at hp
  exact hp
theorem Shuf.mem {a b : List ArcI} {x y : Nat} (h : Shuf a b x y) (hy : y ≤ a.length) {p : Nat} (hp : x ≤ p) (hp' : p < y) : ∃ p', x ≤ p' ∧ p' < y ∧ b.getD p default = a.getD p' default := by
  have hl := h.len
  have hm : b.getD p default ∈ (b.drop x).take (y - x) := by
    rw [List.mem_iff_getElem?]
    refine ⟨p - x, ?_⟩
    rw [List.getElem?_take, if_pos (by omega), List.getElem?_drop, show x + (p - x) = p by omega, List.getD_eq_getElem?_getD, List.getElem?_eq_getElem (by omega)]
    rfl
  have hm2 := (h.seg (by omega) hy).mem_iff.1 hm
  rw [List.mem_iff_getElem?] at hm2
  obtain ⟨i, hi⟩ := hm2
  rw [List.getElem?_take] at hi
  split at hi
  · rename_i hlt
    rw [List.getElem?_drop] at hi
    refine ⟨x + i, by omega, by omega, ?_⟩
    rw [List.getD_eq_getElem?_getD (l := a), hi]; rfl
  · cases hi
theorem merge_fin {T T1 T2 : List ArcI} {x mid y : Nat} (hxm : x ≤ mid) (hmy : mid ≤ y) (hy : y ≤ T.length) (h1 : Shuf T T1 x mid) (s1 : SortedOn T1 x mid) (h2 : Shuf T1 T2 mid y) (s2 : SortedOn T2 mid y)
    (hc : ∀ p q, x ≤ p → p < mid → mid ≤ q → q < y → leA (T.getD p default) (T.getD q default)) : SortedOn T2 x y := by
  intro p q hp hpq hq
  have hl1 := h1.len
  by_cases q1 : q < mid
  · rw [getD_of_get (h2.pre p (by omega)), getD_of_get (h2.pre q q1)]; exact s1 p q hp hpq q1
  · by_cases p1 : p < mid
    · obtain ⟨p', a1, a2, a3⟩ := h1.mem (by omega) hp p1
      obtain ⟨q', b1, b2, b3⟩ := h2.mem (by omega) (show mid ≤ q by omega) hq
      rw [getD_of_get (h2.pre p p1), a3, b3, getD_of_get (h1.post q' b1)]
      exact hc p' q' a1 a2 b1 b2
    · exact s2 p q (by omega) hpq hq
/-- What the search for the first place has found. -/
theorem search_F {arr : List ArcI} {x m y s : Nat} (hxm : x < m) (hmy : m < y) (s1 : SortedOn arr x m) (s2 : SortedOn arr m y) {s0 r0 : Nat}
    (hs0 : (m > (x + y) / 2 ∧ s0 + y = (x + y) / 2 + m ∧ r0 = (x + y) / 2) ∨ (m ≤ (x + y) / 2 ∧ s0 = x ∧ r0 = m)) (h0 : s0 ≤ s) (h1 : s ≤ r0)
    (A : ∀ c, s0 ≤ c → c < s → leA (arr.getD c default) (arr.getD ((x + y) / 2 + m - 1 - c) default)) (B : ∀ c, s ≤ c → c < r0 → ¬ leA (arr.getD c default) (arr.getD ((x + y) / 2 + m - 1 - c) default)) :
    x ≤ s ∧ s ≤ m ∧ s ≤ (x + y) / 2 ∧ m ≤ (x + y) / 2 + m - s ∧ (x + y) / 2 + m - s ≤ y ∧ s + ((x + y) / 2 + m - s - m) = (x + y) / 2 ∧
    (∀ c q, x ≤ c → c < s → (x + y) / 2 + m - s ≤ q → q < y → leA (arr.getD c default) (arr.getD q default)) ∧
    (∀ c q, s ≤ c → c < m → m ≤ q → q < (x + y) / 2 + m - s → leA (arr.getD q default) (arr.getD c default)) := by
  refine ⟨by omega, by omega, by omega, by omega, by omega, by omega, fun c q hc hcs hq hqy => ?_, fun c q hc hcm hq hqe => ?_⟩
  · have hs : s0 < s := by omega
    have h := A (s - 1) (by omega) (by omega)
    have e : (x + y) / 2 + m - 1 - (s - 1) = (x + y) / 2 + m - s := by omega
    rw [e] at h
    have l1 : leA (arr.getD c default) (arr.getD (s - 1) default) := by
      by_cases e : c = s - 1
      · rw [e]; exact leA_refl _
      · exact s1 c (s - 1) hc (by omega) (by omega)
    have l2 : leA (arr.getD ((x + y) / 2 + m - s) default) (arr.getD q default) := by
      by_cases e : q = (x + y) / 2 + m - s
      · rw [e]; exact leA_refl _
      · exact s2 _ q (by omega) (by omega) hqy
    exact leA_trans l1 (leA_trans h l2)
  · have hs : s < r0 := by omega
    have h := B s (Nat.le_refl _) hs
    have h' := (leA_total (arr.getD s default) (arr.getD ((x + y) / 2 + m - 1 - s) default)).resolve_left h
    have l1 : leA (arr.getD q default) (arr.getD ((x + y) / 2 + m - 1 - s) default) := by
      by_cases e : q = (x + y) / 2 + m - 1 - s
      · rw [e]; exact leA_refl _
      · exact s2 q _ hq (by omega) (by omega)
    have l2 : leA (arr.getD s default) (arr.getD c default) := by
      by_cases e : c = s
      · rw [e]; exact leA_refl _
      · exact s1 s c (by omega) (by omega) hcm
    exact leA_trans l1 (leA_trans h' l2)
end Go.Proofs.YtdcjfpjpboafnaaDoor
