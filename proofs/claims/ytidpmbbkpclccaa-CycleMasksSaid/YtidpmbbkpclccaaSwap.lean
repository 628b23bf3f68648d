/- The library's stable sort, at arcs: exchanging runs. -/
import Derived.Test.YtidpmbbkpclccaaArcs
import Derived.BigRegion
namespace Go.Proofs.Ytidpmbbkpclccaa
set_option linter.all false
open Go.RowKit
set_option maxRecDepth 100000

def SwapPost (W : World) (b : Nat) (tail : List Value) (arr : List ArcI) (v : Value) (w' : World) : Prop := v = .tuple #[] ∧ Fr (fun k => k = b) W w' ∧ ArrAt w' b arr tail
/-- What stands where behind i exchanges. -/
def SwapInv (arr cur : List ArcI) (x y i : Nat) : Prop := cur.length = arr.length ∧ ∀ k, cur[k]? = if x ≤ k ∧ k < x + i then arr[y + (k - x)]? else if y ≤ k ∧ k < y + i then arr[x + (k - y)]? else arr[k]?
theorem apart9 {p q : Nat} (h : p ≠ q) : ¬ (p * 3 = q * 3) ∧ ¬ (p * 3 = q * 3 + 1) ∧ ¬ (p * 3 = q * 3 + 2) ∧ ¬ (p * 3 + 1 = q * 3) ∧ ¬ (p * 3 + 1 = q * 3 + 1) ∧ ¬ (p * 3 + 1 = q * 3 + 2) ∧ ¬ (p * 3 + 2 = q * 3) ∧ ¬ (p * 3 + 2 = q * 3 + 1) ∧ ¬ (p * 3 + 2 = q * 3 + 2) := by omega
/-- Two elements exchanged. -/
def swp (l : List ArcI) (p q : Nat) : List ArcI := (l.set p (l.getD q default)).set q (l.getD p default)
theorem swp_len (l : List ArcI) (p q : Nat) : (swp l p q).length = l.length := by simp [swp]
theorem swp_get {l : List ArcI} {p q : Nat} (hp : p < l.length) (hq : q < l.length) (k : Nat) : (swp l p q)[k]? = if k = q then l[p]? else if k = p then l[q]? else l[k]? := by
  unfold swp
  simp only [List.getElem?_set, List.length_set, List.getD_eq_getElem?_getD, List.getElem?_eq_getElem hp, List.getElem?_eq_getElem hq, Option.getD_some]
  by_cases h1 : q = k
  · simp [h1, show k < l.length by omega]
  · by_cases h2 : p = k
    · simp [h1, h2, Ne.symm h1, show k < l.length by omega]
    · simp [h1, h2, Ne.symm h1, Ne.symm h2]
theorem swp_set3 {W : World} {b : Nat} {l : List ArcI} {tail : List Value} (h : ArrAt W b l tail) {p q : Nat} (hp : p < l.length) (hq : q < l.length) :
    ArrAt (set3 (set3 W b (p * 3) (l.getD q default)) b (q * 3) (l.getD p default)).drew b (swp l p q) tail := by
  have h1 := h.set3 hp (l.getD q default)
  have h2 := h1.set3 (i := q) (by rw [List.length_set]; exact hq) (l.getD p default)
  exact Fr.heap (fr_drew (fun _ => False) _) h2 (fun x => x)
theorem fr_swp (W : World) (b o o' : Nat) (u v : ArcI) : Fr (fun k => k = b) W (set3 (set3 W b o u) b o' v).drew := ((fr_set3 W b o u).trans (fr_set3 _ b o' v) (fun _ _ e => e)).drew
theorem SwapInv.step {arr cur : List ArcI} {x y i n : Nat} (h : SwapInv arr cur x y i) (hi : i < n) (hxy : x + n ≤ y) (hy : y + n ≤ arr.length) : SwapInv arr (swp cur (x + i) (y + i)) x y (i + 1) := by
  refine ⟨by rw [swp_len]; exact h.1, fun k => ?_⟩
  have hl := h.1
  rw [swp_get (by omega) (by omega), h.2, h.2, h.2]
  have A1 : (k = y + i) → ¬ (x ≤ k ∧ k < x + (i + 1)) ∧ (y ≤ k ∧ k < y + (i + 1)) := by omega
  have A2 : ¬ (x ≤ x + i ∧ x + i < x + i) ∧ ¬ (y ≤ x + i ∧ x + i < y + i) := by omega
  have A3 : ¬ (x ≤ y + i ∧ y + i < x + i) ∧ ¬ (y ≤ y + i ∧ y + i < y + i) := by omega
  rw [if_neg A2.1, if_neg A2.2, if_neg A3.1, if_neg A3.2]
  by_cases h1 : k = y + i
  · rw [if_pos h1, if_neg (A1 h1).1, if_pos (A1 h1).2, show x + (k - y) = x + i by omega]
  · rw [if_neg h1]
    by_cases h2 : k = x + i
    · have B : x ≤ k ∧ k < x + (i + 1) := by omega
      rw [if_pos h2, if_pos B, show y + (k - x) = y + i by omega]
    · rw [if_neg h2]
      by_cases h3 : x ≤ k ∧ k < x + i
      · have B : x ≤ k ∧ k < x + (i + 1) := by omega
        rw [if_pos h3, if_pos B]
      · have B : ¬ (x ≤ k ∧ k < x + (i + 1)) := by omega
        rw [if_neg h3, if_neg B]
        by_cases h4 : y ≤ k ∧ k < y + i
        · have C : y ≤ k ∧ k < y + (i + 1) := by omega
          rw [if_pos h4, if_pos C]
        · have C : ¬ (y ≤ k ∧ k < y + (i + 1)) := by omega
          rw [if_neg h4, if_neg C]
def SwapRPost (W : World) (b : Nat) (tail : List Value) (arr : List ArcI) (x y n : Nat) (v : Value) (w' : World) : Prop := ∃ cur, SwapInv arr cur x y n ∧ SwapPost W b tail cur v w'
set_option maxHeartbeats 2000000 in
theorem swapRange_is {W : World} {b cap : Nat} {arr : List ArcI} {tail : List Value} (h : ArrAt W b arr tail) (hlen : arr.length ≤ 17592186044416) {x y n : Nat} (hxy : x + n ≤ y) (hy : y + n ≤ arr.length) (cf : Value) :
    Calls Try.prog 76 #[.slice (some ⟨b, 0, none⟩) arr.length cap, .int .i64 x, .int .i64 y, .int .i64 n, cf] W (Rets (SwapRPost W b tail arr x y n)) := by
  go_enter Try.func76, Try.ntmps76
  go_wp2
  go_loopw [10] (fun vi wr => ∃ (i : Nat) (cur : List ArcI), i ≤ n ∧ vi = .int .i64 i ∧ Hid (SwapInv arr cur x y i) ∧ ArrAt wr b cur tail ∧ Fr (fun k => k = b) W wr) (fun vi _ => n - (intOf vi).toNat)
  case atStart => exact ⟨0, arr, Nat.zero_le _, rfl, Lib.hid ⟨rfl, fun k => by rw [if_neg (by omega), if_neg (by omega)]⟩, h, Fr.refl _ _⟩
  case round =>
    obtain ⟨i, cur, hi, rfl, HI, ha, hf⟩ := hrel
    by_cases hlt : i < n
    · have hcl : cur.length = arr.length := HI.out.1
      obtain ⟨c1, c2, c3⟩ := ha.arc (j := x + i) (by omega)
      obtain ⟨d1, d2, d3⟩ := ha.arc (j := y + i) (by omega)
      have f1 := ha.frozen ((x + i) * 3)
      have f2 := ha.frozen ((x + i) * 3 + 1)
      have f3 := ha.frozen ((x + i) * 3 + 2)
      have g1 := ha.frozen ((y + i) * 3)
      have g2 := ha.frozen ((y + i) * 3 + 1)
      have g3 := ha.frozen ((y + i) * 3 + 2)
      have hst := swp_set3 ha (p := x + i) (q := y + i) (by omega) (by omega)
      have hsi := HI.out.step (n := n) (by omega) hxy hy
      generalize hu : cur.getD (x + i) default = u at c1 c2 c3 hst
      generalize hv : cur.getD (y + i) default = v at d1 d2 d3 hst
      have HS := Lib.hid hst
      have HSI := Lib.hid hsi
      clear hu hv hst hsi
      have hi' : (i : Int) < (n : Int) := by omega
      have hx' : (x : Int) + (i : Int) < (arr.length : Int) := by omega
      have hy' : (y : Int) + (i : Int) < (arr.length : Int) := by omega
      clear hcl
      have ht1 : ((x : Int) + (i : Int)).toNat = x + i := by omega
      have ht2 : ((y : Int) + (i : Int)).toNat = y + i := by omega
      obtain ⟨n00, n01, n02, n10, n11, n12, n20, n21, n22⟩ := apart9 (p := x + i) (q := y + i) (by omega)
      go_wp2_with fail
      go_region
      go_wp2
      go_roundw
      case rel => exact ⟨i + 1, swp cur (x + i) (y + i), by omega, by go_num, HSI, HS.out, hf.trans (fr_swp wr b _ _ v u) (fun _ _ e => e)⟩
      case measure => simp [intOf]; omega
    · go_wp2
      go_end0
      exact ⟨_, rfl, cur, by rw [show n = i by omega]; exact HI.out, rfl, hf, ha⟩

/-! ### Rotating -/
theorem get5 {α : Type} (P U Q V R : List α) (k : Nat) : (P ++ U ++ Q ++ V ++ R)[k]? =
    if k < P.length then P[k]? else if k < P.length + U.length then U[k - P.length]? else if k < P.length + U.length + Q.length then Q[k - (P.length + U.length)]?
    else if k < P.length + U.length + Q.length + V.length then V[k - (P.length + U.length + Q.length)]? else R[k - (P.length + U.length + Q.length + V.length)]? := by
  simp only [List.getElem?_append, List.length_append]
  repeat' split
  all_goals first | rfl | omega | (congr 1; omega)
theorem swap_list {P U Q V R cur : List ArcI} (h : SwapInv (P ++ U ++ Q ++ V ++ R) cur P.length (P.length + U.length + Q.length) U.length) (hUV : V.length = U.length) : cur = P ++ V ++ Q ++ U ++ R := by
  apply List.ext_getElem?
  intro k
  rw [h.2 k]
  simp only [get5, hUV]
  repeat' split
  all_goals first | rfl | omega | (congr 1; omega)
theorem swapRange_i {W : World} {b cap N : Nat} {arr : List ArcI} {tail : List Value} (h : ArrAt W b arr tail) (hN : arr.length = N) (hlen : N ≤ 17592186044416) (xi yi ni : Int) (x y n : Nat) (hxi : xi = x) (hyi : yi = y) (hni : ni = n) (hxy : x + n ≤ y) (hy : y + n ≤ N) (cf : Value) :
    Calls Try.prog 76 #[.slice (some ⟨b, 0, none⟩) N cap, .int .i64 xi, .int .i64 yi, .int .i64 ni, cf] W (Rets (SwapRPost W b tail arr x y n)) := by
  subst hN hxi hyi hni
  exact swapRange_is h hlen hxy hy cf
/-- Where a rotation stands: what is left to be exchanged, and where all that comes to. -/
def RotInv (m : Nat) (T cur : List ArcI) (i j : Nat) : Prop :=
  ∃ pre X Y post : List ArcI, cur = pre ++ X ++ Y ++ post ∧ T = pre ++ Y ++ X ++ post ∧ pre.length + i = m ∧ X.length = i ∧ Y.length = j
theorem RotInv.big {m : Nat} {T cur cur' : List ArcI} {i j : Nat} (h : RotInv m T cur i j) (hij : j < i) (hs : SwapInv cur cur' (m - i) m j) : RotInv m T cur' (i - j) j := by
  obtain ⟨pre, X, Y, post, rfl, rfl, h1, h2, h3⟩ := h
  have e : X = X.take j ++ X.drop j := (List.take_append_drop j X).symm
  have hl : (X.take j).length = j := by rw [List.length_take]; omega
  rw [e] at hs
  have hs' : SwapInv (pre ++ X.take j ++ X.drop j ++ Y ++ post) cur' pre.length (pre.length + (X.take j).length + (X.drop j).length) (X.take j).length := by
    have e1 : pre.length = m - i := by omega
    have e2 : pre.length + (X.take j).length + (X.drop j).length = m := by rw [List.length_take, List.length_drop]; omega
    rw [e2, hl, e1]
    simpa [List.append_assoc] using hs
  have := swap_list hs' (by omega)
  refine ⟨pre ++ Y, X.drop j, X.take j, post, by rw [this], ?_, ?_, ?_, hl⟩
  · simp [List.append_assoc]
  · rw [List.length_append]; omega
  · rw [List.length_drop]; omega
theorem RotInv.small {m : Nat} {T cur cur' : List ArcI} {i j : Nat} (h : RotInv m T cur i j) (hij : i < j) (hs : SwapInv cur cur' (m - i) (m + j - i) i) : RotInv m T cur' i (j - i) := by
  obtain ⟨pre, X, Y, post, rfl, rfl, h1, h2, h3⟩ := h
  have e : Y = Y.take (j - i) ++ Y.drop (j - i) := (List.take_append_drop _ Y).symm
  have hl : (Y.take (j - i)).length = j - i := by rw [List.length_take]; omega
  have hl2 : (Y.drop (j - i)).length = i := by rw [List.length_drop]; omega
  rw [e] at hs
  have hs' : SwapInv (pre ++ X ++ Y.take (j - i) ++ Y.drop (j - i) ++ post) cur' pre.length (pre.length + X.length + (Y.take (j - i)).length) X.length := by
    have e1 : pre.length = m - i := by omega
    have e2 : pre.length + X.length + (Y.take (j - i)).length = m + j - i := by omega
    rw [e2, h2, e1]
    simpa [List.append_assoc] using hs
  have := swap_list hs' (by omega)
  refine ⟨pre, Y.drop (j - i), Y.take (j - i), X ++ post, by rw [this]; simp [List.append_assoc], ?_, h1, hl2, hl⟩
  rw [show pre ++ Y ++ X ++ post = pre ++ (Y.take (j - i) ++ Y.drop (j - i)) ++ X ++ post by rw [List.take_append_drop]]
  simp [List.append_assoc]
theorem RotInv.last {m : Nat} {T cur cur' : List ArcI} {i : Nat} (h : RotInv m T cur i i) (hs : SwapInv cur cur' (m - i) m i) : cur' = T := by
  obtain ⟨pre, X, Y, post, rfl, rfl, h1, h2, h3⟩ := h
  have hs' : SwapInv (pre ++ X ++ [] ++ Y ++ post) cur' pre.length (pre.length + X.length + ([] : List ArcI).length) X.length := by
    have e1 : pre.length = m - i := by omega
    have e2 : pre.length + X.length + ([] : List ArcI).length = m := by simp; omega
    rw [e2, h2, e1]
    simpa [List.append_assoc] using hs
  have := swap_list hs' (by omega)
  simpa [List.append_assoc] using this
theorem RotInv.len {m : Nat} {T cur : List ArcI} {i j : Nat} (h : RotInv m T cur i j) : cur.length = T.length ∧ i ≤ m ∧ m + j ≤ T.length := by
  obtain ⟨pre, X, Y, post, rfl, rfl, h1, h2, h3⟩ := h
  simp; omega
set_option maxHeartbeats 2000000 in
theorem rotate_is {W : World} {b cap N : Nat} {arr T : List ArcI} {tail : List Value} (h : ArrAt W b arr tail) (hN : arr.length = N) (hlen : N ≤ 17592186044416) (xi mi yi : Int) (x m y : Nat) (hxi : xi = x) (hmi : mi = m) (hyi : yi = y)
    (hx : x < m) (hy : m < y) (hR : RotInv m T arr (m - x) (y - m)) (cf : Value) :
    Calls Try.prog 70 #[.slice (some ⟨b, 0, none⟩) N cap, .int .i64 xi, .int .i64 mi, .int .i64 yi, cf] W (Rets (SwapPost W b tail T)) := by
  subst hxi hmi hyi
  have hTN := Lib.hid (hR.len.1.symm.trans hN)
  have hmy : y ≤ N := by have := hR.len; omega
  have HR := Lib.hid hR
  clear hR
  go_enter Try.func70, Try.ntmps70
  go_wp2
  go_loopw [10, 11] (fun vi vj wr => ∃ (i j : Nat) (cur : List ArcI), 1 ≤ i ∧ i ≤ m ∧ 1 ≤ j ∧ m + j ≤ N ∧ vi = .int .i64 i ∧ vj = .int .i64 j ∧ Hid (RotInv m T cur i j) ∧ ArrAt wr b cur tail ∧ Fr (fun k => k = b) W wr) (fun vi vj _ => (intOf vi).toNat + (intOf vj).toNat)
  case atStart => exact ⟨m - x, y - m, arr, by omega, by omega, by omega, by omega, by congr 1; omega, by congr 1; omega, HR, h, Fr.refl _ _⟩
  case round =>
    obtain ⟨i, j, cur, hi, him, hj, hjm, rfl, rfl, HI, ha, hf⟩ := hrel
    have hcN := HI.out.len.1.trans hTN.out
    have HCN := Lib.hid hcN
    clear hcN
    by_cases heq : i = j
    · subst heq
      go_wp2_with (go_at_call 76; refine (swapRange_i ha HCN.out hlen _ _ _ (m - i) m i (by omega) rfl rfl (by omega) (by omega) _).mono ?_; rintro e w2 ⟨_, rfl, cur', h1, rfl, h2, h3⟩)
      go_end0
      exact ⟨_, rfl, rfl, hf.trans h2 (fun _ _ e => e), by rw [← HI.out.last h1]; exact h3⟩
    · by_cases hgt : j < i
      · have b1 : ((i : Int) != (j : Int)) = true := by rw [bne_iff_ne]; omega
        have b2 : decide ((j : Int) < (i : Int)) = true := by simp; omega
        have b3 : (i != j) = true := by rw [bne_iff_ne]; omega
        go_wp2_with (go_at_call 76; refine (swapRange_i ha HCN.out hlen _ _ _ (m - i) m j (by omega) rfl rfl (by omega) (by omega) _).mono ?_; rintro e w2 ⟨_, rfl, cur', h1, rfl, h2, h3⟩)
        go_roundw
        case rel => exact ⟨i - j, j, cur', by omega, by omega, by omega, by omega, by congr 1; omega, rfl, Lib.hid (HI.out.big hgt h1), h3, hf.trans h2 (fun _ _ e => e)⟩
        case measure => simp [intOf]; omega
      · have b1 : ((i : Int) != (j : Int)) = true := by rw [bne_iff_ne]; omega
        have b2 : decide ((j : Int) < (i : Int)) = false := by simp; omega
        have b3 : (i != j) = true := by rw [bne_iff_ne]; omega
        go_wp2_with (go_at_call 76; refine (swapRange_i ha HCN.out hlen _ _ _ (m - i) (m + j - i) i (by omega) (by omega) rfl (by omega) (by omega) _).mono ?_; rintro e w2 ⟨_, rfl, cur', h1, rfl, h2, h3⟩)
        go_roundw
        case rel => exact ⟨i, j - i, cur', by omega, by omega, by omega, by omega, rfl, by congr 1; omega, Lib.hid (HI.out.small (by omega) h1), h3, hf.trans h2 (fun _ _ e => e)⟩
        case measure => simp [intOf]; omega
end Go.Proofs.Ytidpmbbkpclccaa
