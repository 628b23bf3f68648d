/- Swap, Insert, in one text. -/
import Derived.Test.YtdcjfpjpboafnaaDoorArcs
import Derived.BigRegion
namespace Go.Proofs.YtdcjfpjpboafnaaDoor
set_option linter.all false
open Go.RowKit
set_option maxRecDepth 100000

def SwapPost (W : World) (b : Nat) (tail : List Value) (arr : List ArcI) (v : Value) (w' : World) : Prop := v = .tuple #[] ∧ Fr (fun k => k = b) W w' ∧ ArrAt w' b arr tail
/-- What stands where behind i exchanges. -/
def SwapInv (arr cur : List ArcI) (x y i : Nat) : Prop := cur.length = arr.length ∧ ∀ k, cur[k]? = if x ≤ k ∧ k < x + i then arr[y + (k - x)]? else if y ≤ k ∧ k < y + i then arr[x + (k - y)]? else arr[k]?
theorem apart9 {p q : Nat} (h : p ≠ q) : ¬ (p * 3 = q * 3) ∧ ¬ (p * 3 = q * 3 + 1) ∧ ¬ (p * 3 = q * 3 + 2) ∧ ¬ (p * 3 + 1 = q * 3) ∧ ¬ (p * 3 + 1 = q * 3 + 1) ∧ ¬ (p * 3 + 1 = q * 3 + 2) ∧ ¬ (p * 3 + 2 = q * 3) ∧ ¬ (p * 3 + 2 = q * 3 + 1) ∧ ¬ (p * 3 + 2 = q * 3 + 2) := by omega
/-- Two elements exchanged. -/
def swp (l : List ArcI) (p q : Nat) : List ArcI := (l.set p (l.getD q default)).set q (l.getD p default)
theorem swp_len (l : List ArcI) (p q : Nat) : (swp l p q).length = l.length := by simp [swp]
theorem swp_get {l : List ArcI} {p q : Nat} (hp : p < l.length) (hq : q < l.length) (k : Nat) : (swp l p q)[k]? = if k = q then l[p]? else if k = p then l[q]? else l[k]? := by
  unfold swp
  simp only [List.getElem?_set, List.length_set, List.getD_eq_getElem?_getD, List.getElem?_eq_getElem hp, List.getElem?_eq_getElem hq, Option.getD_some]
  by_cases h1 : q = k
  · simp [h1, show k < l.length by omega]
  · by_cases h2 : p = k
    · simp [h1, h2, Ne.symm h1, show k < l.length by omega]
    · simp [h1, h2, Ne.symm h1, Ne.symm h2]
theorem swp_set3 {W : World} {b : Nat} {l : List ArcI} {tail : List Value} (h : ArrAt W b l tail) {p q : Nat} (hp : p < l.length) (hq : q < l.length) :
    ArrAt (set3 (set3 W b (p * 3) (l.getD q default)) b (q * 3) (l.getD p default)).drew b (swp l p q) tail := by
  have h1 := h.set3 hp (l.getD q default)
  have h2 := h1.set3 (i := q) (by rw [List.length_set]; exact hq) (l.getD p default)
  exact Fr.heap (fr_drew (fun _ => False) _) h2 (fun x => x)
theorem fr_swp (W : World) (b o o' : Nat) (u v : ArcI) : Fr (fun k => k = b) W (set3 (set3 W b o u) b o' v).drew := ((fr_set3 W b o u).trans (fr_set3 _ b o' v) (fun _ _ e => e)).drew
theorem SwapInv.step {arr cur : List ArcI} {x y i n : Nat} (h : SwapInv arr cur x y i) (hi : i < n) (hxy : x + n ≤ y) (hy : y + n ≤ arr.length) : SwapInv arr (swp cur (x + i) (y + i)) x y (i + 1) := by
  refine ⟨by rw [swp_len]; exact h.1, fun k => ?_⟩
  have hl := h.1
  rw [swp_get (by omega) (by omega), h.2, h.2, h.2]
  have A1 : (k = y + i) → ¬ (x ≤ k ∧ k < x + (i + 1)) ∧ (y ≤ k ∧ k < y + (i + 1)) := by omega
  have A2 : ¬ (x ≤ x + i ∧ x + i < x + i) ∧ ¬ (y ≤ x + i ∧ x + i < y + i) := by omega
  have A3 : ¬ (x ≤ y + i ∧ y + i < x + i) ∧ ¬ (y ≤ y + i ∧ y + i < y + i) := by omega
  rw [if_neg A2.1, if_neg A2.2, if_neg A3.1, if_neg A3.2]
  by_cases h1 : k = y + i
  · rw [if_pos h1, if_neg (A1 h1).1, if_pos (A1 h1).2, show x + (k - y) = x + i by omega]
  · rw [if_neg h1]
    by_cases h2 : k = x + i
    · have B : x ≤ k ∧ k < x + (i + 1) := by omega
      rw [if_pos h2, if_pos B, show y + (k - x) = y + i by omega]
    · rw [if_neg h2]
      by_cases h3 : x ≤ k ∧ k < x + i
      · have B : x ≤ k ∧ k < x + (i + 1) := by omega
        rw [if_pos h3, if_pos B]
      · have B : ¬ (x ≤ k ∧ k < x + (i + 1)) := by omega
        rw [if_neg h3, if_neg B]
        by_cases h4 : y ≤ k ∧ k < y + i
        · have C : y ≤ k ∧ k < y + (i + 1) := by omega
          rw [if_pos h4, if_pos C]
        · have C : ¬ (y ≤ k ∧ k < y + (i + 1)) := by omega
          rw [if_neg h4, if_neg C]
def SwapRPost (W : World) (b : Nat) (tail : List Value) (arr : List ArcI) (x y n : Nat) (v : Value) (w' : World) : Prop := ∃ cur, SwapInv arr cur x y n ∧ SwapPost W b tail cur v w'
set_option maxHeartbeats 2000000 in
theorem swapRange_is {W : World} {b cap : Nat} {arr : List ArcI} {tail : List Value} (h : ArrAt W b arr tail) (hlen : arr.length ≤ 17592186044416) {x y n : Nat} (hxy : x + n ≤ y) (hy : y + n ≤ arr.length) (cf : Value) :
    Calls Tryd.prog 88 #[.slice (some ⟨b, 0, none⟩) arr.length cap, .int .i64 x, .int .i64 y, .int .i64 n, cf] W (Rets (SwapRPost W b tail arr x y n)) := by
  go_enter Tryd.func88, Tryd.ntmps88
  go_wp2
  go_loopw [10] (fun vi wr => ∃ (i : Nat) (cur : List ArcI), i ≤ n ∧ vi = .int .i64 i ∧ Hid (SwapInv arr cur x y i) ∧ ArrAt wr b cur tail ∧ Fr (fun k => k = b) W wr) (fun vi _ => n - (intOf vi).toNat)
  case atStart => exact ⟨0, arr, Nat.zero_le _, rfl, Lib.hid ⟨rfl, fun k => by rw [if_neg (by omega), if_neg (by omega)]⟩, h, Fr.refl _ _⟩
  case round =>
    obtain ⟨i, cur, hi, rfl, HI, ha, hf⟩ := hrel
    by_cases hlt : i < n
    · have hcl : cur.length = arr.length := HI.out.1
      obtain ⟨c1, c2, c3⟩ := ha.arc (j := x + i) (by omega)
      obtain ⟨d1, d2, d3⟩ := ha.arc (j := y + i) (by omega)
      have f1 := ha.frozen ((x + i) * 3)
      have f2 := ha.frozen ((x + i) * 3 + 1)
      have f3 := ha.frozen ((x + i) * 3 + 2)
      have g1 := ha.frozen ((y + i) * 3)
      have g2 := ha.frozen ((y + i) * 3 + 1)
      have g3 := ha.frozen ((y + i) * 3 + 2)
      have hst := swp_set3 ha (p := x + i) (q := y + i) (by omega) (by omega)
      have hsi := HI.out.step (n := n) (by omega) hxy hy
      generalize hu : cur.getD (x + i) default = u at c1 c2 c3 hst
      generalize hv : cur.getD (y + i) default = v at d1 d2 d3 hst
      have HS := Lib.hid hst
      have HSI := Lib.hid hsi
      clear hu hv hst hsi
      have hi' : (i : Int) < (n : Int) := by omega
      have hx' : (x : Int) + (i : Int) < (arr.length : Int) := by omega
      have hy' : (y : Int) + (i : Int) < (arr.length : Int) := by omega
      clear hcl
      have ht1 : ((x : Int) + (i : Int)).toNat = x + i := by omega
      have ht2 : ((y : Int) + (i : Int)).toNat = y + i := by omega
      obtain ⟨n00, n01, n02, n10, n11, n12, n20, n21, n22⟩ := apart9 (p := x + i) (q := y + i) (by omega)
      go_wp2_with fail
      go_region
      go_wp2
      go_roundw
      case rel => exact ⟨i + 1, swp cur (x + i) (y + i), by omega, by go_num, HSI, HS.out, hf.trans (fr_swp wr b _ _ v u) (fun _ _ e => e)⟩
      case measure => simp [intOf]; omega
    · go_wp2
      go_end0
      exact ⟨_, rfl, cur, by rw [show n = i by omega]; exact HI.out, rfl, hf, ha⟩

/-! ### Rotating -/
theorem get5 {α : Type} (P U Q V R : List α) (k : Nat) : (P ++ U ++ Q ++ V ++ R)[k]? =
    if k < P.length then P[k]? else if k < P.length + U.length then U[k - P.length]? else if k < P.length + U.length + Q.length then Q[k - (P.length + U.length)]?
    else if k < P.length + U.length + Q.length + V.length then V[k - (P.length + U.length + Q.length)]? else R[k - (P.length + U.length + Q.length + V.length)]? := by
  simp only [List.getElem?_append, List.length_append]
  repeat' split
  all_goals first | rfl | omega | (congr 1; omega)
theorem swap_list {P U Q V R cur : List ArcI} (h : SwapInv (P ++ U ++ Q ++ V ++ R) cur P.length (P.length + U.length + Q.length) U.length) (hUV : V.length = U.length) : cur = P ++ V ++ Q ++ U ++ R := by
  apply List.ext_getElem?
  intro k
  rw [h.2 k]
  simp only [get5, hUV]
  repeat' split
  all_goals first | rfl | omega | (congr 1; omega)
theorem swapRange_i {W : World} {b cap N : Nat} {arr : List ArcI} {tail : List Value} (h : ArrAt W b arr tail) (hN : arr.length = N) (hlen : N ≤ 17592186044416) (xi yi ni : Int) (x y n : Nat) (hxi : xi = x) (hyi : yi = y) (hni : ni = n) (hxy : x + n ≤ y) (hy : y + n ≤ N) (cf : Value) :
    Calls Tryd.prog 88 #[.slice (some ⟨b, 0, none⟩) N cap, .int .i64 xi, .int .i64 yi, .int .i64 ni, cf] W (Rets (SwapRPost W b tail arr x y n)) := by
  subst hN hxi hyi hni
  exact swapRange_is h hlen hxy hy cf
/-- Where a rotation stands: what is left to be exchanged, and where all that comes to. -/
def RotInv (m : Nat) (T cur : List ArcI) (i j : Nat) : Prop :=
  ∃ pre X Y post : List ArcI, cur = pre ++ X ++ Y ++ post ∧ T = pre ++ Y ++ X ++ post ∧ pre.length + i = m ∧ X.length = i ∧ Y.length = j
theorem RotInv.big {m : Nat} {T cur cur' : List ArcI} {i j : Nat} (h : RotInv m T cur i j) (hij : j < i) (hs : SwapInv cur cur' (m - i) m j) : RotInv m T cur' (i - j) j := by
  obtain ⟨pre, X, Y, post, rfl, rfl, h1, h2, h3⟩ := h
  have e : X = X.take j ++ X.drop j := (List.take_append_drop j X).symm
  have hl : (X.take j).length = j := by rw [List.length_take]; omega
  rw [e] at hs
  have hs' : SwapInv (pre ++ X.take j ++ X.drop j ++ Y ++ post) cur' pre.length (pre.length + (X.take j).length + (X.drop j).length) (X.take j).length := by
    have e1 : pre.length = m - i := by omega
    have e2 : pre.length + (X.take j).length + (X.drop j).length = m := by rw [List.length_take, List.length_drop]; omega
    rw [e2, hl, e1]
    simpa [List.append_assoc] using hs
  have := swap_list hs' (by omega)
  refine ⟨pre ++ Y, X.drop j, X.take j, post, by rw [this], ?_, ?_, ?_, hl⟩
  · simp [List.append_assoc]
  · rw [List.length_append]; omega
  · rw [List.length_drop]; omega
theorem RotInv.small {m : Nat} {T cur cur' : List ArcI} {i j : Nat} (h : RotInv m T cur i j) (hij : i < j) (hs : SwapInv cur cur' (m - i) (m + j - i) i) : RotInv m T cur' i (j - i) := by
  obtain ⟨pre, X, Y, post, rfl, rfl, h1, h2, h3⟩ := h
  have e : Y = Y.take (j - i) ++ Y.drop (j - i) := (List.take_append_drop _ Y).symm
  have hl : (Y.take (j - i)).length = j - i := by rw [List.length_take]; omega
  have hl2 : (Y.drop (j - i)).length = i := by rw [List.length_drop]; omega
  rw [e] at hs
  have hs' : SwapInv (pre ++ X ++ Y.take (j - i) ++ Y.drop (j - i) ++ post) cur' pre.length (pre.length + X.length + (Y.take (j - i)).length) X.length := by
    have e1 : pre.length = m - i := by omega
    have e2 : pre.length + X.length + (Y.take (j - i)).length = m + j - i := by omega
    rw [e2, h2, e1]
    simpa [List.append_assoc] using hs
  have := swap_list hs' (by omega)
  refine ⟨pre, Y.drop (j - i), Y.take (j - i), X ++ post, by rw [this]; simp [List.append_assoc], ?_, h1, hl2, hl⟩
  rw [show pre ++ Y ++ X ++ post = pre ++ (Y.take (j - i) ++ Y.drop (j - i)) ++ X ++ post by rw [List.take_append_drop]]
  simp [List.append_assoc]
theorem RotInv.last {m : Nat} {T cur cur' : List ArcI} {i : Nat} (h : RotInv m T cur i i) (hs : SwapInv cur cur' (m - i) m i) : cur' = T := by
  obtain ⟨pre, X, Y, post, rfl, rfl, h1, h2, h3⟩ := h
  have hs' : SwapInv (pre ++ X ++ [] ++ Y ++ post) cur' pre.length (pre.length + X.length + ([] : List ArcI).length) X.length := by
    have e1 : pre.length = m - i := by omega
    have e2 : pre.length + X.length + ([] : List ArcI).length = m := by simp; omega
    rw [e2, h2, e1]
    simpa [List.append_assoc] using hs
  have := swap_list hs' (by omega)
  simpa [List.append_assoc] using this
theorem RotInv.len {m : Nat} {T cur : List ArcI} {i j : Nat} (h : RotInv m T cur i j) : cur.length = T.length ∧ i ≤ m ∧ m + j ≤ T.length := by
  obtain ⟨pre, X, Y, post, rfl, rfl, h1, h2, h3⟩ := h
  simp; omega
set_option maxHeartbeats 2000000 in
theorem rotate_is {W : World} {b cap N : Nat} {arr T : List ArcI} {tail : List Value} (h : ArrAt W b arr tail) (hN : arr.length = N) (hlen : N ≤ 17592186044416) (xi mi yi : Int) (x m y : Nat) (hxi : xi = x) (hmi : mi = m) (hyi : yi = y)
    (hx : x < m) (hy : m < y) (hR : RotInv m T arr (m - x) (y - m)) (cf : Value) :
    Calls Tryd.prog 86 #[.slice (some ⟨b, 0, none⟩) N cap, .int .i64 xi, .int .i64 mi, .int .i64 yi, cf] W (Rets (SwapPost W b tail T)) := by
  subst hxi hmi hyi
  have hTN := Lib.hid (hR.len.1.symm.trans hN)
  have hmy : y ≤ N := by have := hR.len; omega
  have HR := Lib.hid hR
  clear hR
  go_enter Tryd.func86, Tryd.ntmps86
  go_wp2
  go_loopw [10, 11] (fun vi vj wr => ∃ (i j : Nat) (cur : List ArcI), 1 ≤ i ∧ i ≤ m ∧ 1 ≤ j ∧ m + j ≤ N ∧ vi = .int .i64 i ∧ vj = .int .i64 j ∧ Hid (RotInv m T cur i j) ∧ ArrAt wr b cur tail ∧ Fr (fun k => k = b) W wr) (fun vi vj _ => (intOf vi).toNat + (intOf vj).toNat)
  case atStart => exact ⟨m - x, y - m, arr, by omega, by omega, by omega, by omega, by congr 1; omega, by congr 1; omega, HR, h, Fr.refl _ _⟩
  case round =>
    obtain ⟨i, j, cur, hi, him, hj, hjm, rfl, rfl, HI, ha, hf⟩ := hrel
    have hcN := HI.out.len.1.trans hTN.out
    have HCN := Lib.hid hcN
    clear hcN
    by_cases heq : i = j
    · subst heq
      go_wp2_with (go_at_call 88; refine (swapRange_i ha HCN.out hlen _ _ _ (m - i) m i (by omega) rfl rfl (by omega) (by omega) _).mono ?_; rintro e w2 ⟨_, rfl, cur', h1, rfl, h2, h3⟩)
      go_end0
      exact ⟨_, rfl, rfl, hf.trans h2 (fun _ _ e => e), by rw [← HI.out.last h1]; exact h3⟩
    · by_cases hgt : j < i
      · have b1 : ((i : Int) != (j : Int)) = true := by rw [bne_iff_ne]; omega
        have b2 : decide ((j : Int) < (i : Int)) = true := by simp; omega
        have b3 : (i != j) = true := by rw [bne_iff_ne]; omega
        go_wp2_with (go_at_call 88; refine (swapRange_i ha HCN.out hlen _ _ _ (m - i) m j (by omega) rfl rfl (by omega) (by omega) _).mono ?_; rintro e w2 ⟨_, rfl, cur', h1, rfl, h2, h3⟩)
        go_roundw
        case rel => exact ⟨i - j, j, cur', by omega, by omega, by omega, by omega, by congr 1; omega, rfl, Lib.hid (HI.out.big hgt h1), h3, hf.trans h2 (fun _ _ e => e)⟩
        case measure => simp [intOf]; omega
      · have b1 : ((i : Int) != (j : Int)) = true := by rw [bne_iff_ne]; omega
        have b2 : decide ((j : Int) < (i : Int)) = false := by simp; omega
        have b3 : (i != j) = true := by rw [bne_iff_ne]; omega
        go_wp2_with (go_at_call 88; refine (swapRange_i ha HCN.out hlen _ _ _ (m - i) (m + j - i) i (by omega) (by omega) rfl (by omega) (by omega) _).mono ?_; rintro e w2 ⟨_, rfl, cur', h1, rfl, h2, h3⟩)
        go_roundw
        case rel => exact ⟨i, j - i, cur', by omega, by omega, by omega, by omega, rfl, by congr 1; omega, Lib.hid (HI.out.small (by omega) h1), h3, hf.trans h2 (fun _ _ e => e)⟩
        case measure => simp [intOf]; omega
end Go.Proofs.YtdcjfpjpboafnaaDoor
namespace Go.Proofs.YtdcjfpjpboafnaaDoor
set_option linter.all false
open Go.RowKit
set_option maxRecDepth 100000

/-! ### The order of arcs -/
def leA (a b : ArcI) : Prop := a.f < b.f ∨ (a.f = b.f ∧ a.t ≤ b.t)
theorem standsI_lt (a b : ArcI) : standsI a.f a.t b.f b.t < 0 ↔ ¬ leA b a := by
  unfold standsI leA orI cmpI
  by_cases h1 : a.f < b.f
  · simp [h1] <;> omega
  · by_cases h2 : b.f < a.f
    · simp [h1, h2]
    · have e : a.f = b.f := by omega
      simp only [h1, h2, if_false, if_true]
      by_cases h3 : a.t < b.t
      · simp [h3, e] <;> omega
      · by_cases h4 : b.t < a.t
        · simp [h3, h4, e] <;> omega
        · simp [h3, h4, e] <;> omega
theorem standsI_zero (a b : ArcI) : standsI a.f a.t b.f b.t = 0 ↔ a.f = b.f ∧ a.t = b.t := by
  unfold standsI orI cmpI
  by_cases h1 : a.f < b.f
  · simp [h1] <;> omega
  · by_cases h2 : b.f < a.f
    · simp [h1, h2] <;> omega
    · have e : a.f = b.f := by omega
      simp only [h1, h2, if_false, if_true]
      by_cases h3 : a.t < b.t
      · simp [h3, e] <;> omega
      · by_cases h4 : b.t < a.t
        · simp [h3, h4, e] <;> omega
        · simp [h3, h4, e] <;> omega
theorem leA_trans {a b c : ArcI} (h : leA a b) (k : leA b c) : leA a c := by unfold leA at *; omega
theorem leA_total (a b : ArcI) : leA a b ∨ leA b a := by unfold leA; omega
theorem leA_refl (a : ArcI) : leA a a := by unfold leA; omega

/-! ### What sorting a piece keeps -/
/-- cur is arr but for the order within [x, y). -/
structure Shuf (arr cur : List ArcI) (x y : Nat) : Prop where
  perm : cur.Perm arr
  pre : ∀ k, k < x → cur[k]? = arr[k]?
  post : ∀ k, y ≤ k → cur[k]? = arr[k]?
def SortedOn (l : List ArcI) (x y : Nat) : Prop := ∀ p q, x ≤ p → p < q → q < y → leA (l.getD p default) (l.getD q default)
theorem Shuf.refl (l : List ArcI) (x y : Nat) : Shuf l l x y := ⟨List.Perm.refl _, fun _ _ => rfl, fun _ _ => rfl⟩
theorem Shuf.len {arr cur : List ArcI} {x y : Nat} (h : Shuf arr cur x y) : cur.length = arr.length := h.perm.length_eq
theorem Shuf.trans {a b c : List ArcI} {x y x' y' : Nat} (h : Shuf a b x y) (k : Shuf b c x' y') (hx : x ≤ x') (hy : y' ≤ y) : Shuf a c x y :=
  ⟨k.perm.trans h.perm, fun j hj => (k.pre j (by omega)).trans (h.pre j hj), fun j hj => (k.post j (by omega)).trans (h.post j hj)⟩
theorem perm_set_set (l : List ArcI) (p q : Nat) (hp : p < l.length) (hq : q < l.length) : (swp l p q).Perm l := by
  unfold swp
  rw [List.getD_eq_getElem?_getD, List.getD_eq_getElem?_getD, List.getElem?_eq_getElem hp, List.getElem?_eq_getElem hq, Option.getD_some, Option.getD_some]
  exact List.set_set_perm hp hq
theorem Shuf.swp {arr cur : List ArcI} {x y p q : Nat} (h : Shuf arr cur x y) (hp : x ≤ p) (hp' : p < y) (hq : x ≤ q) (hq' : q < y) (hy : y ≤ arr.length) : Shuf arr (swp cur p q) x y := by
  have hl := h.len
  refine ⟨(perm_set_set cur p q (by omega) (by omega)).trans h.perm, fun k hk => ?_, fun k hk => ?_⟩
  · rw [swp_get (by omega) (by omega), if_neg (by omega), if_neg (by omega)]; exact h.pre k hk
  · rw [swp_get (by omega) (by omega), if_neg (by omega), if_neg (by omega)]; exact h.post k hk
theorem getD_of_get {l l' : List ArcI} {k : Nat} (h : l[k]? = l'[k]?) : l.getD k default = l'.getD k default := by simp [List.getD_eq_getElem?_getD, h]
theorem swp_getD {l : List ArcI} {p q : Nat} (hp : p < l.length) (hq : q < l.length) (k : Nat) : (swp l p q).getD k default = if k = q then l.getD p default else if k = p then l.getD q default else l.getD k default := by
  rw [List.getD_eq_getElem?_getD, swp_get hp hq]
  split
  · simp [List.getD_eq_getElem?_getD]
  · split <;> simp [List.getD_eq_getElem?_getD]
theorem swp_comm (l : List ArcI) (p q : Nat) : swp l p q = swp l q p := by
  unfold swp
  by_cases h : p = q
  · subst h; rfl
  · rw [List.set_comm _ _ h]
/-- All pairs in order but those whose later one stands at j. -/
def InsInv (l : List ArcI) (x i j : Nat) : Prop := ∀ p q, x ≤ p → p < q → q ≤ i → q ≠ j → leA (l.getD p default) (l.getD q default)
theorem InsInv.step {l : List ArcI} {x i j : Nat} (h : InsInv l x i j) (hx : x < j) (hj : j ≤ i) (hi : i < l.length) (hlt : ¬ leA (l.getD (j - 1) default) (l.getD j default)) : InsInv (swp l (j - 1) j) x i (j - 1) := by
  intro p q hp hpq hq hne
  rw [swp_getD (by omega) (by omega), swp_getD (by omega) (by omega)]
  by_cases q1 : q = j
  · rw [if_neg (show ¬ p = j by omega), if_pos q1]
    by_cases p1 : p = j - 1
    · rw [if_pos p1]; exact (leA_total _ _).resolve_right hlt
    · rw [if_neg p1]; exact h p (j - 1) hp (by omega) (by omega) (by omega)
  · rw [if_neg q1, if_neg hne]
    by_cases p1 : p = j
    · rw [if_pos p1]; exact h (j - 1) q (by omega) (by omega) hq q1
    · rw [if_neg p1]
      by_cases p2 : p = j - 1
      · rw [if_pos p2]; exact h j q (by omega) (by omega) hq q1
      · rw [if_neg p2]; exact h p q hp hpq hq q1
theorem InsInv.done {l : List ArcI} {x i j : Nat} (h : InsInv l x i j) (hj : j ≤ i) (hxj : x ≤ j) (hd : j = x ∨ leA (l.getD (j - 1) default) (l.getD j default)) : SortedOn l x (i + 1) := by
  intro p q hp hpq hq
  by_cases e : q = j
  · subst e
    rcases hd with hd | hd
    · omega
    · by_cases p1 : p = q - 1
      · rw [p1]; exact hd
      · exact leA_trans (h p (q - 1) hp (by omega) (by omega) (by omega)) hd
  · exact h p q hp hpq (by omega) e

theorem stands_enters : ∀ args w, (callFunc 62 args).run Tryd.prog w = .ok (.enter 62 args) w := enters_of Tryd.func62 (by kernel_rfl) rfl
def SortPost (W : World) (b : Nat) (tail : List Value) (arr : List ArcI) (x y : Nat) (v : Value) (w' : World) : Prop :=
  v = .tuple #[] ∧ Fr (fun k => k = b) W w' ∧ ∃ cur, Shuf arr cur x y ∧ SortedOn cur x y ∧ ArrAt w' b cur tail
set_option maxHeartbeats 4000000 in
theorem insertion_is {W : World} {b cap N : Nat} {arr : List ArcI} {tail : List Value} (h : ArrAt W b arr tail) (hN : arr.length = N) (hlen : N ≤ 17592186044416) (xi yi : Int) (x y : Nat) (hxi : xi = x) (hyi : yi = y) (hxy : x ≤ y) (hy : y ≤ N) :
    Calls Tryd.prog 82 #[.slice (some ⟨b, 0, none⟩) N cap, .int .i64 xi, .int .i64 yi, .func (.func 62) #[] #[]] W (Rets (SortPost W b tail arr x y)) := by
  subst hxi hyi
  have hen := stands_enters
  have HN := Lib.hid hN
  clear hN
  go_enter Tryd.func82, Tryd.ntmps82
  go_wp2
  go_loopw [8] (fun vi wr => ∃ (i : Nat) (cur : List ArcI), x < i ∧ i ≤ y + 1 ∧ vi = .int .i64 i ∧ Hid (Shuf arr cur x y) ∧ Hid (SortedOn cur x (min i y)) ∧ ArrAt wr b cur tail ∧ Fr (fun k => k = b) W wr) (fun vi _ => y + 1 - (intOf vi).toNat)
  case atStart => exact ⟨x + 1, arr, by omega, by omega, by go_num, Lib.hid (Shuf.refl _ _ _), Lib.hid (fun p q h1 h2 h3 => by omega), h, Fr.refl _ _⟩
  case round =>
    obtain ⟨i, cur, hi1, hi2, rfl, HS, HO, ha, hf⟩ := hrel
    by_cases hlt : i < y
    · go_wp2
      obtain ⟨wo, rfl⟩ : ∃ wo : World, wo = wr := ⟨_, rfl⟩
      go_loopw [9] (fun vj wr => ∃ (j : Nat) (cur : List ArcI), x ≤ j ∧ j ≤ i ∧ vj = .int .i64 j ∧ Hid (Shuf arr cur x y) ∧ Hid (InsInv cur x i j) ∧ ArrAt wr b cur tail ∧ Fr (fun k => k = b) W wr) (fun vj _ => (intOf vj).toNat)
      case atStart => exact ⟨i, cur, by omega, Nat.le_refl _, rfl, HS, Lib.hid (fun p q h1 h2 h3 h4 => HO.out p q h1 h2 (by omega)), ha, hf⟩
      case round =>
        obtain ⟨j, cur, hj1, hj2, rfl, HS, HI, ha, hf⟩ := hrel
        have hcN : cur.length = N := HS.out.len.trans HN.out
        by_cases hxj : x < j
        · obtain ⟨c1, c2, c3⟩ := ha.arc (j := j) (by omega)
          obtain ⟨d1, d2, d3⟩ := ha.arc (j := j - 1) (by omega)
          have hst := swp_set3 ha (p := j) (q := j - 1) (by omega) (by omega)
          have hdec := standsI_lt (cur.getD j default) (cur.getD (j - 1) default)
          have hstep := fun hh => HI.out.step (j := j) (by omega) hj2 (by omega) hh
          generalize hu : cur.getD j default = u at c1 c2 c3 hst hdec hstep
          generalize hv : cur.getD (j - 1) default = v at d1 d2 d3 hst hdec hstep
          have HU := Lib.hid hu
          have HV := Lib.hid hv
          have HST := Lib.hid hst
          have HSTEP := Lib.hid hstep
          have HDEC := Lib.hid hdec
          clear hu hv hst hstep hdec
          have k1 : (x : Int) < (j : Int) := by omega
          have k2 : (1 : Int) ≤ (j : Int) := by omega
          have k3 : (j : Int) < (N : Int) := by omega
          have k4 : (j : Int) - 1 < (N : Int) := by omega
          have k5 : (0 : Int) ≤ (j : Int) - 1 := by omega
          have ht : ((j : Int) - 1).toNat = j - 1 := by omega
          have HCN := Lib.hid hcN
          clear hcN
          have hw : IntKind.i64.wrap ((j : Int) - 1) = (j : Int) - 1 := by rw [IntKind.wrap_i64]; omega
          go_wp2_with fail
          refine wp_region_still_tail 14 (by kernel_rfl) (by kernel_rfl) ?_
          simp only [List.take_succ_cons, List.take_zero, List.drop_succ_cons, List.drop_zero]
          change wpStill _ _ (World.drew _) _ _ _
          repeat still_step
          refine wpStill_nil ?_
          change wpList _ _ _ _ _ (World.drew _)
          go_wp2_with fail
          refine (stands_is _ _ _ _ _ _ _).mono ?_
          rintro e w2 ⟨_, rfl, rfl, h2⟩
          have h2' : Fr0 wr w2 := Fr.trans (fr_drew _ wr) h2 (fun _ _ x => x)
          have ha2 : ArrAt w2 b cur tail := h2'.heap' ha
          have hdec := HDEC.out
          generalize standsI u.f u.t v.f v.t = c at hdec ⊢
          clear hw
          by_cases hle : leA v u
          · have hc0 : 0 ≤ c := by
              by_cases hh : c < 0
              · exact absurd hle (hdec.1 hh)
              · omega
            have hcb : decide (c < 0) = false := by simp; omega
            clear hdec
            have HLE := Lib.hid hle
            clear hle
            go_wp2
            go_roundw
            case rel =>
              refine ⟨i + 1, cur, by omega, by omega, by go_num, HS, Lib.hid ?_, ha2, hf.trans0 h2'⟩
              have := HI.out.done hj2 hj1 (.inr (by rw [HU.out, HV.out]; exact HLE.out))
              intro p q h1 h2 h3
              exact this p q h1 h2 (by omega)
            case measure => simp [intOf]; omega
          · have hc0 : c < 0 := hdec.2 hle
            have hcb : decide (c < 0) = true := by simp; omega
            clear hdec
            have HLE := Lib.hid hle
            clear hle
            obtain ⟨c1, c2, c3⟩ := ha2.arc (j := j) (by have := HCN.out; omega)
            obtain ⟨d1, d2, d3⟩ := ha2.arc (j := j - 1) (by have := HCN.out; omega)
            have hst := swp_set3 ha2 (p := j) (q := j - 1) (by have := HCN.out; omega) (by have := HCN.out; omega)
            rw [HU.out] at c1 c2 c3 hst
            rw [HV.out] at d1 d2 d3 hst
            have HST := Lib.hid hst
            clear hst
            have f1 := ha2.frozen (j * 3)
            have f2 := ha2.frozen (j * 3 + 1)
            have f3 := ha2.frozen (j * 3 + 2)
            have g1 := ha2.frozen ((j - 1) * 3)
            have g2 := ha2.frozen ((j - 1) * 3 + 1)
            have g3 := ha2.frozen ((j - 1) * 3 + 2)
            obtain ⟨n00, n01, n02, n10, n11, n12, n20, n21, n22⟩ := apart9 (p := j) (q := j - 1) (by omega)
            have hsh := Lib.hid (HS.out.swp (p := j) (q := j - 1) (by omega) (by omega) (by omega) (by omega) (by have := HN.out; omega))
            go_wp2_with fail
            have hw : IntKind.i64.wrap ((j : Int) - 1) = (j : Int) - 1 := by rw [IntKind.wrap_i64]; omega
            go_region
            clear hw
            go_wp2
            go_roundw
            case rel =>
              refine ⟨j - 1, swp cur j (j - 1), by omega, by omega, by rw [show ((j - 1 : Nat) : Int) = (j : Int) - 1 by omega], hsh, Lib.hid ?_, HST.out, (hf.trans0 h2').trans (fr_swp w2 b _ _ v u) (fun _ _ e => e)⟩
              have := HSTEP.out HLE.out
              rwa [swp_comm] at this
            case measure => simp [intOf]; omega
        · have k1 : ¬ ((x : Int) < (j : Int)) := by omega
          have k2 : decide ((x : Int) < (j : Int)) = false := by simp; omega
          have k3 : decide (x < j) = false := by simp; omega
          clear hcN
          go_wp2_with fail
          go_quiet (fail)
          go_wp2
          go_roundw
          case rel =>
            refine ⟨i + 1, cur, by omega, by omega, by go_num, HS, Lib.hid ?_, Fr.heap (fr_drewN (fun _ => False) _ _) ha (fun x => x), hf.drewN _⟩
            have := HI.out.done hj2 hj1 (.inl (by omega))
            intro p q h1 h2 h3
            exact this p q h1 h2 (by omega)
          case measure => simp [intOf]; omega
    · go_wp2
      go_end0
      refine ⟨_, rfl, rfl, hf, cur, HS.out, ?_, ha⟩
      have := HO.out
      rwa [show min i y = y by omega] at this
end Go.Proofs.YtdcjfpjpboafnaaDoor
