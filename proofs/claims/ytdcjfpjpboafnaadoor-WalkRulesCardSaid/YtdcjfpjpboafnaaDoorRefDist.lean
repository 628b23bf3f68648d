/- RefDistP, Ref25, Ref25B, RefDist, in one text. -/
import Derived.Test.YtdcjfpjpboafnaaDoorLeastW
import Derived.Test.YtdcjfpjpboafnaaDoorRefB
import Derived.Test.YtdcjfpjpboafnaaDoorRefA
import Derived.Test.YtdcjfpjpboafnaaDoorDist
import Derived.Deep.RegionHeldLaw
import Derived.Test.YtdcjfpjpboafnaaDoorAgree
namespace Go.Proofs.YtdcjfpjpboafnaaDoor
set_option linter.all false

def encF (o : Option Nat) : Int := o.elim (-1) (fun k : Nat => (k : Int))
theorem encF_neg (o : Option Nat) : (encF o < 0) ↔ o = none := by
  cases o with
  | none => simp [encF]
  | some k => simp [encF]; try omega
theorem encF_eq (o : Option Nat) {m : Nat} (hm : 0 < m) : (encF o = (m : Int) - 1) ↔ o = some (m - 1) := by
  cases o with
  | none => simp [encF]; try omega
  | some k => simp [encF]; try omega
section
variable (E : Nat → Bool → Nat → Bool → Bool) (far : Nat → Bool → Option Nat)
def condD (m v : Nat) (d : Bool) (u : Nat) : Bool := (E v d u false && far u false == some (m - 1)) || (E v d u true && far u true == some (m - 1))
def hitD (m v : Nat) (d : Bool) (w : Nat) : Bool := (List.range w).any (condD E far m v d)
def curD (m v w u : Nat) (d : Bool) : Option Nat := if u < v then cutF far m u d else if u = v then (cutF far (m - 1) v d).or (if hitD E far m v d w = true then some m else none) else cutF far (m - 1) u d
def rowD (n m v w : Nat) (d : Bool) : List Int := (List.range n).map (fun u => encF (curD E far m v w u d))
variable {E far} {n : Nat} {pw tt : Nat → Bool}
theorem hitD_succ (m v : Nat) (d : Bool) (w : Nat) : hitD E far m v d (w + 1) = (hitD E far m v d w || condD E far m v d w) := by simp [hitD, List.range_succ]
theorem cutF_pred {m u : Nat} {d : Bool} (hm : 0 < m) : cutF far (m - 1) u d = some (m - 1) ↔ far u d = some (m - 1) := by
  rw [cutF_some]; exact ⟨fun h => h.1, fun h => ⟨h, Nat.le_refl _⟩⟩
theorem curD_eq {m v w u : Nat} {d : Bool} (hm : 0 < m) : curD E far m v w u d = some (m - 1) ↔ far u d = some (m - 1) := by
  unfold curD
  split
  · rw [cutF_some]; exact ⟨fun h => h.1, fun h => ⟨h, by omega⟩⟩
  · split
    · rename_i e
      subst e
      rw [← cutF_pred hm]
      cases h : cutF far (m - 1) u d with
      | some k => simp
      | none =>
        rw [Option.none_or]
        split
        · simp; omega
        · simp
    · exact cutF_pred hm
theorem or_or (x : Option Nat) (a b : Bool) (m : Nat) : (x.or (if a = true then some m else none)).or (if b = true then some m else none) = x.or (if (a || b) = true then some m else none) := by
  cases x <;> cases a <;> cases b <;> rfl
theorem curD_step (m v w u : Nat) (d : Bool) : curD E far m v (w + 1) u d = if u = v then (curD E far m v w v d).or (if condD E far m v d w = true then some m else none) else curD E far m v w u d := by
  unfold curD
  by_cases h1 : u < v
  · rw [if_pos h1, if_pos h1, if_neg (by omega)]
  · by_cases h2 : u = v
    · subst h2
      rw [if_neg h1, if_pos rfl, if_pos rfl, if_neg h1, if_pos rfl, or_or, hitD_succ]
    · rw [if_neg h1, if_neg h2, if_neg h2, if_neg h1, if_neg h2]
theorem curD_start (m u : Nat) (d : Bool) : curD E far m 0 0 u d = cutF far (m - 1) u d := by
  unfold curD
  rw [if_neg (by omega)]
  split
  · rename_i e; subst e; simp [hitD]
  · rfl
theorem curD_next (hF : FarOk n pw E tt far) {m v : Nat} (hm : 0 < m) (hv : v < n) (hp : pw v = true) (u : Nat) (d : Bool) : curD E far m v n u d = curD E far m (v + 1) 0 u d := by
  unfold curD
  by_cases h1 : u < v
  · rw [if_pos h1, if_pos (show u < v + 1 by omega)]
  · by_cases h2 : u = v
    · subst h2
      rw [if_neg h1, if_pos rfl, if_pos (show u < u + 1 by omega)]
      obtain ⟨k, rfl⟩ : ∃ k, m = k + 1 := ⟨m - 1, by omega⟩
      rw [hF.round k u d hv hp]
      congr 1
      have e : (hitD E far (k + 1) u d n = true) ↔ ∃ w c, w < n ∧ E u d w c = true ∧ cutF far k w c = some k := by
        unfold hitD
        rw [List.any_eq_true]
        constructor
        · rintro ⟨w, hw, h⟩
          rw [List.mem_range] at hw
          simp only [condD, Bool.or_eq_true, Bool.and_eq_true, beq_iff_eq, Nat.add_sub_cancel] at h
          rcases h with ⟨h3, h4⟩ | ⟨h3, h4⟩
          · exact ⟨w, false, hw, h3, cutF_some.2 ⟨h4, Nat.le_refl _⟩⟩
          · exact ⟨w, true, hw, h3, cutF_some.2 ⟨h4, Nat.le_refl _⟩⟩
        · rintro ⟨w, c, hw, h3, h4⟩
          refine ⟨w, List.mem_range.2 hw, ?_⟩
          have h4 := (cutF_some.1 h4).1
          simp only [condD, Bool.or_eq_true, Bool.and_eq_true, beq_iff_eq, Nat.add_sub_cancel]
          cases c
          · exact .inl ⟨h3, h4⟩
          · exact .inr ⟨h3, h4⟩
      by_cases h3 : hitD E far (k + 1) u d n = true
      · rw [if_pos h3, if_pos (e.1 h3)]
      · rw [if_neg h3, if_neg (fun h => h3 (e.2 h))]
    · rw [if_neg h1, if_neg h2]
      by_cases h3 : u = v + 1
      · subst h3; simp [hitD]
      · rw [if_neg (show ¬ u < v + 1 by omega), if_neg h3]
theorem curD_skip (hF : FarOk n pw E tt far) {m v : Nat} (hp : pw v = false) (u : Nat) (d : Bool) : curD E far m v 0 u d = curD E far m (v + 1) 0 u d := by
  unfold curD
  by_cases h1 : u < v
  · rw [if_pos h1, if_pos (show u < v + 1 by omega)]
  · by_cases h2 : u = v
    · subst h2
      have hn : far u d = none := by
        cases h : far u d with
        | none => rfl
        | some k => have := (hF.dom _ _ _ h).2; rw [hp] at this; cases this
      rw [if_neg h1, if_pos rfl, if_pos (show u < u + 1 by omega)]
      simp [hitD, cutF, hn]
    · rw [if_neg h1, if_neg h2]
      by_cases h3 : u = v + 1
      · subst h3; simp [hitD]
      · rw [if_neg (show ¬ u < v + 1 by omega), if_neg h3]
theorem curD_end {m u : Nat} {d : Bool} (hu : u < n) : curD E far m n 0 u d = curD E far (m + 1) 0 0 u d := by
  rw [curD_start, Nat.add_sub_cancel]
  unfold curD
  rw [if_pos hu]
theorem rowD_len (n m v w : Nat) (d : Bool) : (rowD E far n m v w d).length = n := by simp [rowD]
theorem rowD_get {n m v w u : Nat} {d : Bool} (hu : u < n) : (rowD E far n m v w d).getD u 0 = encF (curD E far m v w u d) := by
  simp [rowD, List.getD_eq_getElem?_getD, hu]
theorem rowD_congr {n m v w m' v' w' : Nat} {d : Bool} (h : ∀ u, u < n → curD E far m v w u d = curD E far m' v' w' u d) : rowD E far n m v w d = rowD E far n m' v' w' d := by
  unfold rowD
  apply List.map_congr_left
  intro u hu
  rw [h u (List.mem_range.1 hu)]
/-- The test of one arc, and what it makes of the row. -/
def testD (E : Nat → Bool → Nat → Bool → Bool) (far : Nat → Bool → Option Nat) (m v w : Nat) (d : Bool) : Bool := decide (curD E far m v w v d = none) && condD E far m v d w
theorem rowD_step {n m v w : Nat} {d : Bool} (hv : v < n) : rowD E far n m v (w + 1) d = if testD E far m v w d = true then (rowD E far n m v w d).set v (m : Int) else rowD E far n m v w d := by
  unfold testD
  cases h1 : curD E far m v w v d with
  | some k =>
    simp only [reduceCtorEq, decide_false, Bool.false_and, Bool.false_eq_true, if_false]
    refine rowD_congr (fun u hu => ?_)
    rw [curD_step]
    split
    · rename_i e; subst e; rw [h1]; rfl
    · rfl
  | none =>
    simp only [decide_true, Bool.true_and]
    cases h2 : condD E far m v d w with
    | false =>
      simp only [Bool.false_eq_true, if_false]
      refine rowD_congr (fun u hu => ?_)
      rw [curD_step]
      split
      · rename_i e; subst e; rw [h1, h2]; rfl
      · rfl
    | true =>
      simp only [if_true]
      apply List.ext_getElem
      · simp [rowD]
      · intro u h3 h4
        have hu : u < n := by simpa [rowD] using h3
        rw [List.getElem_set]
        simp only [rowD, List.getElem_map, List.getElem_range]
        rw [curD_step]
        by_cases e : u = v
        · subst e
          rw [if_pos rfl, if_pos rfl, h1, h2]
          rfl
        · rw [if_neg e, if_neg (fun h => e h.symm)]
end
end Go.Proofs.YtdcjfpjpboafnaaDoor
namespace Go.Proofs.YtdcjfpjpboafnaaDoor
set_option linter.all false
open Go.RowKit
set_option maxRecDepth 100000

theorem tmod_nat25 (a b : Nat) : Int.tmod (a : Int) (b : Int) = ((a % b : Nat) : Int) := by
  rw [Int.tmod_eq_emod_of_nonneg (by omega)]; omega
/-- The mask of the arc from a walk's k-th vertex. -/
def mkM25 (M : Int → Int → Int) (c : List Int) (k : Nat) : Int := M (c.getD k 0) (c.getD ((k + 1) % c.length) 0)
/-- All masks, if none is 0. -/
def masksQ (M : Int → Int → Int) (c : List Int) : Option (List Int) :=
  if (List.range c.length).any (fun k => mkM25 M c k == 0) = true then none else some ((List.range c.length).map (mkM25 M c))
theorem masksQ_no {M : Int → Int → Int} {c : List Int} {k : Nat} (hk : k < c.length) (h : mkM25 M c k = 0) : masksQ M c = none := by
  unfold masksQ
  rw [if_pos (List.any_eq_true.2 ⟨k, List.mem_range.2 hk, by simp [h]⟩)]
theorem masksQ_yes {M : Int → Int → Int} {c : List Int} (h : ∀ k, k < c.length → mkM25 M c k ≠ 0) : masksQ M c = some ((List.range c.length).map (mkM25 M c)) := by
  unfold masksQ
  rw [if_neg]
  intro e
  obtain ⟨k, hk, e⟩ := List.any_eq_true.1 e
  exact h k (List.mem_range.1 hk) (by simpa using e)
theorem two_cells25 (W : World) (u v : Value) (t : Nat) : (W.alloc (.cells #[u, v] t)).cell? ⟨W.heap.size, 0, none⟩ = some u ∧ (W.alloc (.cells #[u, v] t)).cell? ⟨W.heap.size, 1, none⟩ = some v := by
  have h := World.alloc_heap_new W (.cells #[u, v] t)
  constructor <;> (unfold World.cell?; rw [h]; rfl)
theorem own_base25 {W : World} {e size B B0 n : Nat} {v : Value} {xs : List Value} (h : W.ownsRow B e size v n xs) (hB : B0 ≤ B) : W.ownsRow B0 e size v n xs := by
  refine ⟨h.1, h.2.imp id ?_⟩
  rintro ⟨g, cap, cur, rfl, hb, rest⟩
  exact ⟨g, cap, cur, rfl, Nat.le_trans hB hb, rest⟩
theorem range_snoc25 (f : Nat → Int) (k : Nat) : (List.range (k + 1)).map f = (List.range k).map f ++ [f k] := by rw [List.range_succ, List.map_append]; rfl
def MsPost25 (W : World) (o : Option (List Int)) (v : Value) (w' : World) : Prop := Fr0 W w' ∧ match o with
  | none => v = .tuple #[.slice none 0 0, .bool false]
  | some l => ∃ A c, v = .tuple #[.slice A l.length c, .bool true] ∧ w'.ownsRow W.heap.size 3 1 (.slice A l.length c) l.length (intsI l)
set_option maxHeartbeats 4000000 in
theorem Masks25_is {W : World} {n cR : Nat} {R : Option Addr} {M : Int → Int → Int} (hM : ∀ w, Fr0 W w → ∀ u t, Calls Tryd.prog 21 #[.agg #[.int .i64 (n : Int), .slice R n cR], .int .i64 u, .int .i64 t] w (Rets (IntPost (M u t) w)))
    {A : Option Addr} {c : Nat} {xs : List Int} (hx : IntsAt W A xs) (hsm : xs.length ≤ 1000) :
    Calls Tryd.prog 48 #[.agg #[.int .i64 (n : Int), .slice R n cR], .slice A xs.length c] W (Rets (MsPost25 W (masksQ M xs))) := by
  obtain ⟨i0, hi, hz0, hz1, hz2⟩ := info_parts info_int
  have HM := Lib.hid hM
  have HX := Lib.hid hx
  obtain ⟨W0, hW0⟩ : ∃ W0, W0 = W.alloc (.cells #[.int .i64 (n : Int), .slice R n cR] 37) := ⟨_, rfl⟩
  obtain ⟨g0, g1⟩ := two_cells25 W (.int .i64 (n : Int)) (.slice R n cR) 37
  rw [← hW0] at g0 g1
  have HF0 : Hid (Fr0 W W0) := Lib.hid (by rw [hW0]; exact fr_alloc _ _ _)
  have hlt0 : W.heap.size < W0.heap.size := by rw [hW0, World.size_alloc]; omega
  clear hM hx
  go_enter Tryd.func48, Tryd.ntmps48
  go_wp2_with fail
  rw [← hW0]
  clear hW0
  go_loopw [6, 7, 8] (fun v6 v7 v8 wr => ∃ k : Nat, k ≤ xs.length ∧ v7 = .int .i64 k ∧ Hid (∀ j, j < k → mkM25 M xs j ≠ 0) ∧ Fr0 W0 wr ∧ Hid (wr.ownsRow W0.heap.size 3 1 v6 k (intsI ((List.range k).map (mkM25 M xs)))) ∧ (k = 0 → v6 = .slice none 0 0)) (fun _ v7 _ _ => xs.length - (intOf v7).toNat)
  case atStart => exact ⟨0, by omega, rfl, Lib.hid (fun j hj => by omega), Fr.refl _ _, Lib.hid (own_nil _ _ _ _), fun _ => rfl⟩
  case round =>
    obtain ⟨k, hk, rfl, HNZ, hf, HO, HV⟩ := hrel
    have HV := Lib.hid HV
    have hF := HF0.out.trans0 hf
    by_cases hlt : k < xs.length
    · have hlt' : (k : Int) < (xs.length : Int) := by omega
      have hml : (k + 1) % xs.length < xs.length := Nat.mod_lt _ (by omega)
      have hmod := tmod_nat25 (k + 1) xs.length
      rw [show ((k + 1 : Nat) : Int) = (k : Int) + 1 by omega] at hmod
      have hn0 : ¬ (xs.length : Int) = 0 := by omega
      have hxn : ¬ xs = [] := fun h => by rw [h] at hlt; cases hlt
      have hwr : IntKind.i64.wrap ((k : Int) + 1) = (k : Int) + 1 := by rw [IntKind.wrap_i64]; omega
      obtain ⟨b, o, rfl, hc⟩ := (HX.out.fr0 hF).at_ hlt
      obtain ⟨_, _, e2, hc2⟩ := (HX.out.fr0 hF).at_ hml
      cases e2
      have HMK : Hid (mkM25 M xs k = M (xs.getD k 0) (xs.getD ((k + 1) % xs.length) 0)) := Lib.hid rfl
      generalize xs.getD ((k + 1) % xs.length) 0 = t at hc2 HMK
      generalize xs.getD k 0 = u at hc HMK
      generalize (k + 1) % xs.length = q at hc2 hml hmod
      have hml' : (q : Int) < (xs.length : Int) := by omega
      have HC := Lib.hid (fun (w : World) (f : Fr0 wr w) => HM.out w (hF.trans0 f) u t)
      rw [← HMK.out] at HC
      have KS := Lib.hid (show ∀ w', Fr0 wr w' → (Fr0 wr w' ∧ w'.cell? ⟨W.heap.size, 0, none⟩ = some (.int .i64 (n : Int)) ∧ w'.cell? ⟨W.heap.size, 1, none⟩ = some (.slice R n cR) ∧ w'.cell? ⟨b, o + k, none⟩ = some (.int .i64 u) ∧ w'.cell? ⟨b, o + q, none⟩ = some (.int .i64 t)) from fun w' f => ⟨f, f.cell (hf.cell g0 (fun x => x)) (fun x => x), f.cell (hf.cell g1 (fun x => x)) (fun x => x), f.cell hc (fun x => x), f.cell hc2 (fun x => x)⟩)
      have hg0 := hf.cell g0 (fun x => x)
      have hg1 := hf.cell g1 (fun x => x)
      by_cases hz : mkM25 M xs k = 0
      · have hr := masksQ_no hlt hz
        rw [hz] at HC
        have HR := Lib.hid hr
        clear hz hr
        go_wp2_with fail
        go_region_held_law (fun w' => Fr0 wr w' ∧ w'.cell? ⟨W.heap.size, 0, none⟩ = some (.int .i64 (n : Int)) ∧ w'.cell? ⟨W.heap.size, 1, none⟩ = some (.slice R n cR) ∧ w'.cell? ⟨b, o + k, none⟩ = some (.int .i64 u) ∧ w'.cell? ⟨b, o + q, none⟩ = some (.int .i64 t))
          ((refine KS.out _ ?_; first | assumption | exact fr_drew _ _))
          (first | (go_at_call 21; (with_reducible refine (HC.out _ (And.left (by assumption))).mono ?_); rintro e w2 ⟨_, rfl, rfl, hf2⟩; have hf3 : Fr0 wr w2 := Fr.trans0 (And.left (by assumption)) hf2))
        go_wp2_with fail
        go_ret2
        rw [HR.out]
        exact ⟨_, rfl, hF.trans0 hf3, rfl⟩
      · have HNZ2 : Hid (∀ j, j < k + 1 → mkM25 M xs j ≠ 0) := Lib.hid (fun j hj => by
          by_cases e : j = k
          · rw [e]; exact hz
          · exact HNZ.out j (by omega))
        have HSN := Lib.hid (range_snoc25 (mkM25 M xs) k)
        generalize mkM25 M xs k = y at hz HC HSN
        have b0 : (y == 0) = false := by simpa using hz
        have hsz := hf.size
        clear hz
        go_wp2_with fail
        go_region_held_law (fun w' => Fr0 wr w' ∧ w'.cell? ⟨W.heap.size, 0, none⟩ = some (.int .i64 (n : Int)) ∧ w'.cell? ⟨W.heap.size, 1, none⟩ = some (.slice R n cR) ∧ w'.cell? ⟨b, o + k, none⟩ = some (.int .i64 u) ∧ w'.cell? ⟨b, o + q, none⟩ = some (.int .i64 t))
          ((refine KS.out _ ?_; first | assumption | exact fr_drew _ _))
          (first | (go_at_call 21; (with_reducible refine (HC.out _ (And.left (by assumption))).mono ?_); rintro e w2 ⟨_, rfl, rfl, hf2⟩; have hf3 : Fr0 wr w2 := Fr.trans0 (And.left (by assumption)) hf2))
        have hF2 := hf.trans0 hf3
        have HO2 := own_fr0 HO.out hf3
        go_wp2_with (at_builtin; refine wpList_append_own _ rfl _ _ 33 rfl W0.heap.size 3 i0 (.int .i64 0) 1 8 Tryd.underlying33 hi hz0 hz1 hz2 rfl (by decide) _ _ _ rfl (own_fr0 HO2 (fr_alloc _ _ _)) _ 1 1 [.int .i64 y] rfl rfl (cell_one_new _ _ _) (by simp [Value.oneCell']) (by unfold maxLen; omega) (by omega) (by have := hF2.size; simp; omega) ?_; intro v' w3 hown' hgrow _)
        go_roundw
        case rel =>
          rw [intsI_snoc, ← HSN.out] at hown'
          exact ⟨k + 1, by omega, by go_num, HNZ2, (hF2.alloc _).trans (append_fr0 (own_fr0 HO2 (fr_alloc _ _ _)) hgrow) (fun j hj e => own_old HO.out hj e), Lib.hid hown', fun h => absurd h (by omega)⟩
        case measure => simp [intOf]; omega
    · have hke : k = xs.length := by omega
      subst hke
      have hge : ¬ (xs.length : Int) < (xs.length : Int) := by omega
      have hr := masksQ_yes HNZ.out
      have HR := Lib.hid hr
      obtain ⟨A6, c6, rfl⟩ := own_form HO.out
      clear hr
      go_wp2_with fail
      go_ret2
      rw [HR.out]
      have hle : ((List.range xs.length).map (mkM25 M xs)).length = xs.length := by simp
      exact ⟨_, rfl, hF, A6, c6, by rw [hle]; rfl, by rw [hle]; exact own_base25 HO.out (by omega)⟩
end Go.Proofs.YtdcjfpjpboafnaaDoor
namespace Go.Proofs.YtdcjfpjpboafnaaDoor
set_option linter.all false
open Go.RowKit
set_option maxRecDepth 100000

theorem RuleOf25_is (k : Int) {W : World} : Calls Tryd.prog 8 #[.int .i64 k] W (Rets (RulePost k W)) := by
  by_cases h1 : k = 6
  · subst h1
    go_enter Tryd.func8, Tryd.ntmps8
    go_wp2_with fail
    (try simp only [Exit.inBlock, Exit.then])
    refine bodyPost_ret (v := .tuple #[.agg #[.int .i64 1, .int .i64 1, .int .i64 1], .bool true]) ?_ rfl ?_
    · simp only [results, show Tryd.f8.results = #[ResultVar.cell 2 26, ResultVar.tmp 3] from rfl]
      go_simp
    · exact ⟨_, rfl, fr_alloc _ _ _, rfl⟩
  by_cases h2 : k = 9
  · subst h2
    go_enter Tryd.func8, Tryd.ntmps8
    go_wp2_with fail
    (try simp only [Exit.inBlock, Exit.then])
    refine bodyPost_ret (v := .tuple #[.agg #[.int .i64 3, .int .i64 2, .int .i64 3], .bool true]) ?_ rfl ?_
    · simp only [results, show Tryd.f8.results = #[ResultVar.cell 2 26, ResultVar.tmp 3] from rfl]
      go_simp
    · exact ⟨_, rfl, fr_alloc _ _ _, rfl⟩
  by_cases h3 : k = 10
  · subst h3
    go_enter Tryd.func8, Tryd.ntmps8
    go_wp2_with fail
    (try simp only [Exit.inBlock, Exit.then])
    refine bodyPost_ret (v := .tuple #[.agg #[.int .i64 3, .int .i64 4, .int .i64 3], .bool true]) ?_ rfl ?_
    · simp only [results, show Tryd.f8.results = #[ResultVar.cell 2 26, ResultVar.tmp 3] from rfl]
      go_simp
    · exact ⟨_, rfl, fr_alloc _ _ _, rfl⟩
  by_cases h4 : k = 11
  · subst h4
    go_enter Tryd.func8, Tryd.ntmps8
    go_wp2_with fail
    (try simp only [Exit.inBlock, Exit.then])
    refine bodyPost_ret (v := .tuple #[.agg #[.int .i64 7, .int .i64 4, .int .i64 7], .bool true]) ?_ rfl ?_
    · simp only [results, show Tryd.f8.results = #[ResultVar.cell 2 26, ResultVar.tmp 3] from rfl]
      go_simp
    · exact ⟨_, rfl, fr_alloc _ _ _, rfl⟩
  have e : ruleI k = none := by simp [ruleI, h1, h2, h3, h4]
  have b1 : (k == 6) = false := by simpa using h1
  have b2 : (k == 9) = false := by simpa using h2
  have b3 : (k == 10) = false := by simpa using h3
  have b4 : (k == 11) = false := by simpa using h4
  go_enter Tryd.func8, Tryd.ntmps8
  go_wp2_with fail
  (try simp only [Exit.inBlock, Exit.then])
  refine bodyPost_ret (v := .tuple #[.agg #[.int .i64 0, .int .i64 0, .int .i64 0], .bool false]) ?_ rfl ?_
  · simp only [results, show Tryd.f8.results = #[ResultVar.cell 2 26, ResultVar.tmp 3] from rfl]
    go_simp
  · exact ⟨_, rfl, fr_alloc _ _ _, by rw [e]⟩
/-- A mask against a rule's part. -/
def bitT (a m : Int) : Bool := bits .and .i64 m a != 0
/-- Fine, as far as the first j masks say, with the k-th one as the one that is needed. -/
def fineJ (a b c : Int) (ms : List Int) (k j : Nat) : Bool := bitT b (ms.getD k 0) && ((ms.take (min j k)).all (bitT a) && ((ms.take j).drop (k + 1)).all (bitT c))
theorem fineJ_end (a b c : Int) (ms : List Int) (k : Nat) (hk : k < ms.length) : fineJ a b c ms k ms.length = (bitT b (ms.getD k 0) && ((ms.take k).all (bitT a) && (ms.drop (k + 1)).all (bitT c))) := by
  unfold fineJ; rw [Nat.min_eq_right (by omega), List.take_length]
theorem fineJ_zero (a b c : Int) (ms : List Int) (k : Nat) : fineJ a b c ms k 0 = bitT b (ms.getD k 0) := by simp [fineJ]
theorem fineJ_lt (a b c : Int) (ms : List Int) {k j : Nat} (hj : j < ms.length) (h : j < k) : fineJ a b c ms k (j + 1) = (fineJ a b c ms k j && bitT a (ms.getD j 0)) := by
  unfold fineJ
  rw [Nat.min_eq_left (by omega), Nat.min_eq_left (by omega), take_succ_I ms j hj, List.all_append]
  have e1 : (ms.take j ++ [ms.getD j 0]).drop (k + 1) = [] := List.drop_eq_nil_iff.2 (by simp; omega)
  have e2 : (ms.take j).drop (k + 1) = [] := List.drop_eq_nil_iff.2 (by simp; omega)
  rw [e1, e2]
  simp [Bool.and_assoc]
theorem fineJ_eq (a b c : Int) (ms : List Int) {k : Nat} (hj : k < ms.length) : fineJ a b c ms k (k + 1) = fineJ a b c ms k k := by
  unfold fineJ
  rw [Nat.min_eq_right (by omega), Nat.min_eq_left (Nat.le_refl _)]
  have e1 : (ms.take (k + 1)).drop (k + 1) = [] := List.drop_eq_nil_iff.2 (by simp; omega)
  have e2 : (ms.take k).drop (k + 1) = [] := List.drop_eq_nil_iff.2 (by simp; omega)
  rw [e1, e2]
theorem fineJ_gt (a b c : Int) (ms : List Int) {k j : Nat} (hj : j < ms.length) (h : k < j) : fineJ a b c ms k (j + 1) = (fineJ a b c ms k j && bitT c (ms.getD j 0)) := by
  unfold fineJ
  rw [Nat.min_eq_right (by omega), Nat.min_eq_right (by omega), take_succ_I ms j hj, List.drop_append_of_le_length (by simp; omega), List.all_append]
  simp [Bool.and_assoc]
theorem fitsL_at {a b c : Int} {ms : List Int} {k : Nat} (hk : k < ms.length) (h : fineJ a b c ms k ms.length = true) : fitsL (bitT a) (bitT b) (bitT c) ms = true := by
  unfold fitsL
  rw [fineJ_end a b c ms k hk] at h
  exact List.any_eq_true.2 ⟨k, List.mem_range.2 hk, h⟩
theorem fitsL_no {a b c : Int} {ms : List Int} (h : ∀ k, k < ms.length → fineJ a b c ms k ms.length = false) : fitsL (bitT a) (bitT b) (bitT c) ms = false := by
  unfold fitsL
  refine List.any_eq_false.2 fun k hk => ?_
  have hk := List.mem_range.1 hk
  rw [← fineJ_end a b c ms k hk, h k hk]
  simp
theorem three_cells25 (W : World) (u v x : Value) (t : Nat) : (W.alloc (.cells #[u, v, x] t)).cell? ⟨W.heap.size, 0, none⟩ = some u ∧ (W.alloc (.cells #[u, v, x] t)).cell? ⟨W.heap.size, 1, none⟩ = some v ∧ (W.alloc (.cells #[u, v, x] t)).cell? ⟨W.heap.size, 2, none⟩ = some x := by
  have h := World.alloc_heap_new W (.cells #[u, v, x] t)
  refine ⟨?_, ?_, ?_⟩ <;> (unfold World.cell?; rw [h]; rfl)
set_option maxHeartbeats 4000000 in
theorem Fits25_is {W : World} {a b c : Int} {A : Option Addr} {cp : Nat} {ms : List Int} (hx : IntsAt W A ms) (hsm : ms.length ≤ 100000) :
    Calls Tryd.prog 22 #[.slice A ms.length cp, .agg #[.int .i64 a, .int .i64 b, .int .i64 c]] W (Rets (SamePost (fitsL (bitT a) (bitT b) (bitT c) ms) W)) := by
  obtain ⟨W0, hW0⟩ : ∃ W0, W0 = W.alloc (.cells #[.int .i64 a, .int .i64 b, .int .i64 c] 26) := ⟨_, rfl⟩
  obtain ⟨g0, g1, g2⟩ := three_cells25 W (.int .i64 a) (.int .i64 b) (.int .i64 c) 26
  rw [← hW0] at g0 g1 g2
  have HF0 : Hid (Fr0 W W0) := Lib.hid (by rw [hW0]; exact fr_alloc _ _ _)
  have HX : Hid (IntsAt W0 A ms) := Lib.hid (by rw [hW0]; exact hx.fr0 (fr_alloc _ _ _))
  clear hx
  go_enter Tryd.func22, Tryd.ntmps22
  go_wp2_with fail
  rw [← hW0]
  clear hW0
  go_loopw [5, 6, 7] (fun v5 v6 v7 wr => ∃ k : Nat, k ≤ ms.length ∧ v5 = .int .i64 k ∧ Hid (∀ i, i < k → fineJ a b c ms i ms.length = false) ∧ Fr0 W0 wr) (fun v5 _ _ _ => ms.length - (intOf v5).toNat)
  case atStart => exact ⟨0, by omega, rfl, Lib.hid (fun i hi => by omega), Fr.refl _ _⟩
  case round =>
    obtain ⟨k, hk, rfl, HNO, hf⟩ := hrel
    by_cases hlt : k < ms.length
    · have hlt' : (k : Int) < (ms.length : Int) := by omega
      obtain ⟨q, o, rfl, hc⟩ := (HX.out.fr0 hf).at_ hlt
      have h1 := hf.cell g1 (fun x => x)
      have HZ : Hid (fineJ a b c ms k 0 = bitT b (ms.getD k 0)) := Lib.hid (fineJ_zero a b c ms k)
      generalize ms.getD k 0 = m at hc HZ
      obtain ⟨u, hu⟩ : ∃ u, bits .and .i64 m b = u := ⟨_, rfl⟩
      have HZ2 : Hid (fineJ a b c ms k 0 = (u != 0)) := Lib.hid (by rw [HZ.out, bitT, hu])
      go_wp2_with fail
      go_region
      go_wp2_with fail
      have hfo := hf.drew
      obtain ⟨wo, hwo⟩ : ∃ wo, wo = wr.drew := ⟨_, rfl⟩
      rw [← hwo] at hfo ⊢
      clear hwo hc h1 hf
      go_loopw [6, 7] (fun v6 v7 w2 => ∃ j : Nat, j ≤ ms.length ∧ v7 = .int .i64 j ∧ v6 = .bool (fineJ a b c ms k j) ∧ Fr0 W0 w2) (fun _ v7 _ => ms.length - (intOf v7).toNat)
      case atStart => exact ⟨0, by omega, rfl, by rw [HZ2.out], hfo⟩
      case round =>
        obtain ⟨j, hj, rfl, rfl, hf2⟩ := hrel
        obtain ⟨F, hF⟩ : ∃ F, fineJ a b c ms k j = F := ⟨_, rfl⟩
        have HF := Lib.hid hF
        rw [hF]
        clear hF
        by_cases hjl : j < ms.length
        · have hjl' : (j : Int) < (ms.length : Int) := by omega
          obtain ⟨_, _, e2, d2⟩ := (HX.out.fr0 hf2).at_ hjl
          cases e2
          have k0 := hf2.cell g0 (fun x => x)
          have k2 := hf2.cell g2 (fun x => x)
          obtain ⟨m2, hm2⟩ : ∃ m2, ms.getD j 0 = m2 := ⟨_, rfl⟩
          rw [hm2] at d2
          have HM2 := Lib.hid hm2
          clear hm2
          rcases Nat.lt_trichotomy j k with hjk | hjk | hjk
          · have l1 : (j : Int) < (k : Int) := by omega
            have l2 : ¬ (k : Int) < (j : Int) := by omega
            obtain ⟨u2, hu2⟩ : ∃ u2, bits .and .i64 m2 a = u2 := ⟨_, rfl⟩
            have HS : Hid (fineJ a b c ms k (j + 1) = (F && (u2 != 0))) := Lib.hid (by rw [fineJ_lt a b c ms hjl hjk, HF.out, HM2.out, bitT, hu2])
            cases F with
            | false =>
              go_wp2_with fail
              go_quiet (fail)
              go_wp2_with fail
              go_roundw
              case rel => exact ⟨j + 1, by omega, by go_num, by rw [HS.out]; first | rfl | simp, hf2.drewN _⟩
              case measure => simp [intOf]; omega
            | true =>
              go_wp2_with fail
              go_region
              go_wp2_with fail
              go_roundw
              case rel => exact ⟨j + 1, by omega, by go_num, by rw [HS.out]; first | rfl | simp, hf2.drew⟩
              case measure => simp [intOf]; omega
          · subst hjk
            have l1 : ¬ (j : Int) < (j : Int) := by omega
            have HS := Lib.hid (fineJ_eq a b c ms hjl)
            go_wp2_with fail
            go_roundw
            case rel => exact ⟨j + 1, by omega, by go_num, by rw [HS.out, HF.out], hf2⟩
            case measure => simp [intOf]; omega
          · have l1 : ¬ (j : Int) < (k : Int) := by omega
            have l2 : (k : Int) < (j : Int) := by omega
            obtain ⟨u2, hu2⟩ : ∃ u2, bits .and .i64 m2 c = u2 := ⟨_, rfl⟩
            have HS : Hid (fineJ a b c ms k (j + 1) = (F && (u2 != 0))) := Lib.hid (by rw [fineJ_gt a b c ms hjl hjk, HF.out, HM2.out, bitT, hu2])
            cases F with
            | false =>
              go_wp2_with fail
              go_quiet (fail)
              go_wp2_with fail
              go_roundw
              case rel => exact ⟨j + 1, by omega, by go_num, by rw [HS.out]; first | rfl | simp, hf2.drewN _⟩
              case measure => simp [intOf]; omega
            | true =>
              go_wp2_with fail
              go_region
              go_wp2_with fail
              go_roundw
              case rel => exact ⟨j + 1, by omega, by go_num, by rw [HS.out]; first | rfl | simp, hf2.drew⟩
              case measure => simp [intOf]; omega
        · have hje : j = ms.length := by omega
          subst hje
          have hge : ¬ (ms.length : Int) < (ms.length : Int) := by omega
          cases F with
          | true =>
            have hr := fitsL_at hlt HF.out
            have HR := Lib.hid hr
            clear hr
            go_wp2_with fail
            go_ret
            exact ⟨_, rfl, by rw [HR.out]; rfl, HF0.out.trans0 hf2⟩
          | false =>
            have HNO2 : Hid (∀ i, i < k + 1 → fineJ a b c ms i ms.length = false) := Lib.hid (fun i hi => by
              by_cases e : i = k
              · rw [e]; exact HF.out
              · exact HNO.out i (by omega))
            go_wp2_with fail
            go_roundw
            case rel => exact ⟨k + 1, by omega, by go_num, HNO2, hf2⟩
            case measure => simp [intOf]; omega
    · have hke : k = ms.length := by omega
      subst hke
      have hr := fitsL_no HNO.out
      have HR := Lib.hid hr
      have hge : ¬ (ms.length : Int) < (ms.length : Int) := by omega
      clear hr
      go_wp2_with fail
      go_ret
      exact ⟨_, rfl, by rw [HR.out]; rfl, HF0.out.trans0 hf⟩
end Go.Proofs.YtdcjfpjpboafnaaDoor
namespace Go.Proofs.YtdcjfpjpboafnaaDoor
set_option linter.all false
open Go.RowKit
set_option maxRecDepth 100000

/-- The document's search: its graph and rule in variables, its two rows. -/
structure DI (W wr : World) (n : Nat) (R : Option Addr) (cR : Nat) (a b c : Int) (ba bb : Nat) (va vb : List Int) : Prop where
  fr : Fr0 W wr
  g : wr.heap[W.heap.size]? = some (.cells #[.int .i64 (n : Int), .slice R n cR] 37 (0, 0))
  r : wr.heap[W.heap.size + 1]? = some (.cells #[.int .i64 a, .int .i64 b, .int .i64 c] 26 (0, 0))
  ra : IntRow wr ba va
  rb : IntRow wr bb vb
  ne : ba ≠ bb ∧ W.heap.size + 2 ≤ ba ∧ W.heap.size + 2 ≤ bb
section
variable {W wr w' : World} {n cR ba bb : Nat} {R : Option Addr} {a b c : Int} {va vb : List Int}
theorem DI.fr0 (h : DI W wr n R cR a b c ba bb va vb) (f : Fr0 wr w') : DI W w' n R cR a b c ba bb va vb :=
  ⟨h.fr.trans0 f, f.heap h.g (fun x => x), f.heap h.r (fun x => x), f.heap h.ra (fun x => x), f.heap h.rb (fun x => x), h.ne⟩
theorem DI.setA (h : DI W wr n R cR a b c ba bb va vb) (i : Nat) (x : Int) : DI W (wr.setCell ⟨ba, i, none⟩ (.int .i64 x)) n R cR a b c ba bb (va.set i x) vb := by
  have f : Fr (fun k => k = ba) wr (wr.setCell ⟨ba, i, none⟩ (.int .i64 x)) := fr_setCell _ _ _ (fun _ => rfl)
  have hn := h.ne
  exact ⟨Fr.trans h.fr f (fun j hj e => by omega), f.heap h.g (by omega), f.heap h.r (by omega), h.ra.set i x, f.heap h.rb (by omega), h.ne⟩
theorem DI.setB (h : DI W wr n R cR a b c ba bb va vb) (i : Nat) (x : Int) : DI W (wr.setCell ⟨bb, i, none⟩ (.int .i64 x)) n R cR a b c ba bb va (vb.set i x) := by
  have f : Fr (fun k => k = bb) wr (wr.setCell ⟨bb, i, none⟩ (.int .i64 x)) := fr_setCell _ _ _ (fun _ => rfl)
  have hn := h.ne
  exact ⟨Fr.trans h.fr f (fun j hj e => by omega), f.heap h.g (by omega), f.heap h.r (by omega), f.heap h.ra (by omega), h.rb.set i x, h.ne⟩
theorem DI.g0 (h : DI W wr n R cR a b c ba bb va vb) : wr.cell? ⟨W.heap.size, 0, none⟩ = some (.int .i64 (n : Int)) := by unfold World.cell?; rw [h.g]; rfl
theorem DI.g1 (h : DI W wr n R cR a b c ba bb va vb) : wr.cell? ⟨W.heap.size, 1, none⟩ = some (.slice R n cR) := by unfold World.cell?; rw [h.g]; rfl
theorem DI.r0 (h : DI W wr n R cR a b c ba bb va vb) : wr.cell? ⟨W.heap.size + 1, 0, none⟩ = some (.int .i64 a) := by unfold World.cell?; rw [h.r]; rfl
theorem DI.r1 (h : DI W wr n R cR a b c ba bb va vb) : wr.cell? ⟨W.heap.size + 1, 1, none⟩ = some (.int .i64 b) := by unfold World.cell?; rw [h.r]; rfl
theorem DI.r2 (h : DI W wr n R cR a b c ba bb va vb) : wr.cell? ⟨W.heap.size + 1, 2, none⟩ = some (.int .i64 c) := by unfold World.cell?; rw [h.r]; rfl
end
/-- The rows at the beginning, as far as they are laid. -/
def rowZ (E : Nat → Bool → Nat → Bool → Bool) (far : Nat → Bool → Option Nat) (n v : Nat) (d : Bool) : List Int := (List.range n).map (fun u => if u < v then encF (curD E far 1 0 0 u d) else 0)
theorem rowZ_set {E : Nat → Bool → Nat → Bool → Bool} {far : Nat → Bool → Option Nat} {n v : Nat} {d : Bool} (hv : v < n) : rowZ E far n (v + 1) d = (rowZ E far n v d).set v (encF (curD E far 1 0 0 v d)) := by
  apply List.ext_getElem
  · simp [rowZ]
  · intro u h3 h4
    rw [List.getElem_set]
    simp only [rowZ, List.getElem_map, List.getElem_range]
    by_cases e : u = v
    · subst e; rw [if_pos (show u < u + 1 by omega), if_pos rfl]
    · rw [if_neg (show ¬ v = u from fun h => e h.symm)]
      by_cases h : u < v
      · rw [if_pos (show u < v + 1 by omega), if_pos h]
      · rw [if_neg (show ¬ u < v + 1 by omega), if_neg h]
theorem rowZ_len (E : Nat → Bool → Nat → Bool → Bool) (far : Nat → Bool → Option Nat) (n v : Nat) (d : Bool) : (rowZ E far n v d).length = n := by simp [rowZ]
theorem rowZ_zero (E : Nat → Bool → Nat → Bool → Bool) (far : Nat → Bool → Option Nat) (n : Nat) (d : Bool) : rowZ E far n 0 d = List.replicate n 0 := by
  unfold rowZ
  rw [List.eq_replicate_iff]
  refine ⟨by simp, fun x hx => ?_⟩
  obtain ⟨u, _, rfl⟩ := List.mem_map.1 hx
  rfl
def RefDistPost (W : World) (n : Nat) (far : Nat → Bool → Option Nat) (v : Value) (w' : World) : Prop :=
  ∃ ba bb, v = .tuple #[.slice (some ⟨ba, 0, none⟩) n n, .slice (some ⟨bb, 0, none⟩) n n] ∧ Fr0 W w' ∧ IntRow w' ba ((List.range n).map (fun u => encF (far u false))) ∧ IntRow w' bb ((List.range n).map (fun u => encF (far u true))) ∧ W.heap.size ≤ ba ∧ W.heap.size ≤ bb
abbrev refE (n : Nat) (Mx : Nat → Nat → Int) (a b c : Int) : Nat → Bool → Nat → Bool → Bool := stepE (fun u w => bitT a (maskR n Mx (u : Int) (w : Int))) (fun u w => bitT b (maskR n Mx (u : Int) (w : Int))) (fun u w => bitT c (maskR n Mx (u : Int) (w : Int)))
theorem make_ints25 (c : Nat) (h1 : c ≤ 1000000000) (w : World) : (Instr.makeSlice 33 (.int .i64 (c : Int)) (.int .i64 (c : Int))).run Tryd.prog w =
    .ok (.slice (some ⟨w.heap.size, 0, none⟩) c c) (w.alloc (.cells (intsI (List.replicate c 0)).toArray 3)) := by
  obtain ⟨i0, hi, hz0, hz1, hz2⟩ := info_parts info_int
  rw [run_make (P := Tryd.prog) w 33 3 i0 (.int .i64 0) Tryd.underlying33 hi hz0 .i64 .i64 c c (by omega) (Int.le_refl _) (by rw [hz2]; omega) (by omega), hz1]
  have : madeCells (Value.int .i64 0).cells ((c : Int).toNat * 1) = (intsI (List.replicate c 0)).toArray := by
    apply Array.ext'
    simp only [madeCells, intsI, Value.cells, Nat.mul_one]
    apply List.ext_getElem
    · simp
    · intro i h1 h2
      simp [Nat.mod_one]
  rw [this]
  simp
set_option maxHeartbeats 16000000 in
theorem RefDist_is {W : World} {n cR d : Nat} {R B : Option Addr} {Mx : Nat → Nat → Int} {ws : List Int} (hg : RefG W n R Mx) (hx : IntsAt W B ws) (a b c tv : Int) {far : Nat → Bool → Option Nat}
    (hF : FarOk n (fun v => decide ((v : Int) ∈ ws)) (refE n Mx a b c) (fun u => decide ((u : Int) = tv)) far) (hbd : ∀ u d k, far u d = some k → k ≤ 2 * n) :
    Calls Tryd.prog 16 #[.agg #[.int .i64 (n : Int), .slice R n cR], .slice B ws.length d, .agg #[.int .i64 a, .int .i64 b, .int .i64 c], .int .i64 tv] W (Rets (RefDistPost W n far)) := by
  have hn := hg.1
  obtain ⟨w0, hw0⟩ : ∃ w0, (W.alloc (.cells #[.int .i64 (n : Int), .slice R n cR] 37)).alloc (.cells #[.int .i64 a, .int .i64 b, .int .i64 c] 26) = w0 := ⟨_, rfl⟩
  have hf0 : Fr0 W w0 := hw0 ▸ (fr_alloc _ _ _).alloc _
  have hs0 : w0.heap.size = W.heap.size + 2 := by rw [← hw0]; simp
  have hgB : w0.heap[W.heap.size]? = some (.cells #[.int .i64 (n : Int), .slice R n cR] 37 (0, 0)) := hw0 ▸ (fr_alloc (fun _ => False) _ _).heap (World.alloc_heap_new W _) (fun x => x)
  have hrB : w0.heap[W.heap.size + 1]? = some (.cells #[.int .i64 a, .int .i64 b, .int .i64 c] 26 (0, 0)) := by
    have := World.alloc_heap_new (W.alloc (.cells #[.int .i64 (n : Int), .slice R n cR] 37)) (.cells #[.int .i64 a, .int .i64 b, .int .i64 c] 26)
    rw [World.size_alloc, hw0] at this; exact this
  have HG := Lib.hid hg
  have HX := Lib.hid hx
  have HF := Lib.hid hF
  have HBD := Lib.hid hbd
  have HGB := Lib.hid hgB
  have HRB := Lib.hid hrB
  have HS0 := Lib.hid hs0
  have hmk := make_ints25 n (by omega)
  clear hg hx hF hbd hs0 hrB
  have c0 : w0.cell? ⟨W.heap.size, 0, none⟩ = some (.int .i64 (n : Int)) := by unfold World.cell?; rw [hgB]; rfl
  clear hgB
  go_enter Tryd.func16, Tryd.ntmps16
  go_upto_region 1 with (fail)
  clear hw0
  go_cut [10, 11] from 17 to 23 (fun s10 s11 wx => ∃ ba bb, s10 = .slice (some ⟨ba, 0, none⟩) n n ∧ s11 = .slice (some ⟨bb, 0, none⟩) n n ∧ DI W wx n R cR a b c ba bb (rowZ (refE n Mx a b c) far n 0 false) (rowZ (refE n Mx a b c) far n 0 true))
  case first =>
    have hlt0 : W.heap.size < w0.heap.size := by have := HS0.out; omega
    go_region
    all_goals
      go_wp2_with fail
      go_meet
    · have hz := newF w0 (intsI (List.replicate n 0)).toArray 3
      have hz2 := newF (w0.alloc (.cells (intsI (List.replicate n 0)).toArray 3)) (intsI (List.replicate n 0)).toArray 3
      rw [World.size_alloc] at hz2
      refine ⟨_, _, rfl, rfl, ⟨((hf0.alloc _).alloc _).drew, ((((fr_alloc (fun _ => False) _ _).alloc _).drew)).heap HGB.out (fun x => x), ((((fr_alloc (fun _ => False) _ _).alloc _).drew)).heap HRB.out (fun x => x), ?_, ?_, by have := HS0.out; omega⟩⟩
      · rw [rowZ_zero]; exact ((fr_alloc (fun _ => False) _ _).drew).heap hz (fun x => x)
      · rw [rowZ_zero]; exact (fr_drew (fun _ => False) _).heap hz2 (fun x => x)
    · have hz := newF w0 (intsI (List.replicate n 0)).toArray 3
      have hz2 := newF (w0.alloc (.cells (intsI (List.replicate n 0)).toArray 3)) (intsI (List.replicate n 0)).toArray 3
      rw [World.size_alloc] at hz2
      refine ⟨_, _, rfl, rfl, ⟨((hf0.alloc _).alloc _).drew, ((((fr_alloc (fun _ => False) _ _).alloc _).drew)).heap HGB.out (fun x => x), ((((fr_alloc (fun _ => False) _ _).alloc _).drew)).heap HRB.out (fun x => x), ?_, ?_, by have := HS0.out; omega⟩⟩
      · rw [rowZ_zero]; exact (fr_drew (fun _ => False) _).heap hz2 (fun x => x)
      · rw [rowZ_zero]; exact ((fr_alloc (fun _ => False) _ _).drew).heap hz (fun x => x)
  case rest =>
    obtain ⟨ba, bb, rfl, rfl, hD⟩ := hcut
    clear c0 hmk HGB HRB HS0 hf0
    obtain ⟨w1, hw1⟩ : ∃ w1, w1 = wc := ⟨_, rfl⟩
    subst hw1
    obtain ⟨E, hE⟩ : ∃ E, E = refE n Mx a b c := ⟨_, rfl⟩
    rw [← hE] at hD HF
    have HE := Lib.hid hE
    clear hE
    clear w0
    go_wp2_with fail
    go_loopw [12] (fun vi wr => ∃ v : Nat, v ≤ n ∧ vi = .int .i64 v ∧ DI W wr n R cR a b c ba bb (rowZ E far n v false) (rowZ E far n v true)) (fun vi _ => n - (intOf vi).toNat)
    case atStart => exact ⟨0, Nat.zero_le _, rfl, hD⟩
    case round =>
      clear hD
      obtain ⟨v, hv, rfl, hD⟩ := hrel
      by_cases hlt : v < n
      · have hlt' : (v : Int) < (n : Int) := by omega
        have g0 := hD.g0
        have a0 := hD.ra.cell (i := v) (by rw [rowZ_len]; exact hlt)
        have fa := hD.ra.frozen v
        have hDA := hD.setA v (-1)
        have b0 := hDA.rb.cell (i := v) (by rw [rowZ_len]; exact hlt)
        have fb := hDA.rb.frozen v
        have hDB := hDA.setB v (-1)
        have HAS := Lib.hid (fun w' (f : Fr0 ((wr.setCell ⟨ba, v, none⟩ (.int .i64 (-1))).setCell ⟨bb, v, none⟩ (.int .i64 (-1))) w') => Has5_is (c := d) (HX.out.fr0 (hDB.fr.trans0 f)) (v : Int))
        have zA : rowZ E far n (v + 1) false = (rowZ E far n v false).set v (-1) := by
          rw [rowZ_set hlt, curD_start, cutF_zero HF.out]; simp [encF]
        have HZA := Lib.hid zA
        have zB : rowZ E far n (v + 1) true = (rowZ E far n v true).set v (if (v : Int) = tv ∧ (v : Int) ∈ ws then 0 else -1) := by
          rw [rowZ_set hlt, curD_start, cutF_zero HF.out]
          by_cases h : (v : Int) = tv ∧ (v : Int) ∈ ws
          · rw [if_pos h, if_pos (by simp [h.1, h.2, hlt]; rw [← h.1]; exact h.2)]; rfl
          · rw [if_neg h, if_neg (fun k => h (by simpa [hlt] using k))]; rfl
        have HZB := Lib.hid zB
        have HDB := Lib.hid hDB
        have hne := hD.ne
        have gx0 := hDB.g0
        have bx0 := hDB.rb.cell (i := v) (by rw [List.length_set, rowZ_len]; exact hlt)
        have fx := hDB.rb.frozen v
        clear zA zB hD hDA hDB
        by_cases hvt : (v : Int) = tv
        · have he : ((v : Int) == tv) = true := by simpa using hvt
          by_cases hmem : (v : Int) ∈ ws
          · rw [show decide ((v : Int) ∈ ws) = true by simpa using hmem] at HAS
            have HC := Lib.hid (And.intro hvt hmem)
            clear hvt hmem
            go_wp2_with (go_at_call 20; refine (HAS.out _ (Fr.refl _ _)).mono ?_; rintro e w' ⟨rfl, rfl⟩)
            go_roundw
            case rel =>
              refine ⟨v + 1, by omega, by go_num, ?_⟩
              have := HDB.out.setB v 0
              rw [List.set_set] at this
              rw [HZA.out, HZB.out, if_pos HC.out]; exact this
            case measure => simp [intOf]; omega
          · rw [show decide ((v : Int) ∈ ws) = false by simpa using hmem] at HAS
            have HC := Lib.hid (show ¬ ((v : Int) = tv ∧ (v : Int) ∈ ws) from fun h => hmem h.2)
            clear hvt hmem
            go_wp2_with (go_at_call 20; refine (HAS.out _ (Fr.refl _ _)).mono ?_; rintro e w' ⟨rfl, rfl⟩)
            go_roundw
            case rel =>
              refine ⟨v + 1, by omega, by go_num, ?_⟩
              rw [HZA.out, HZB.out, if_neg HC.out]; exact HDB.out
            case measure => simp [intOf]; omega
        · have he : ((v : Int) == tv) = false := by simpa using hvt
          have HC := Lib.hid (show ¬ ((v : Int) = tv ∧ (v : Int) ∈ ws) from fun h => hvt h.1)
          clear hvt
          go_wp2_with fail
          go_roundw
          case rel =>
            refine ⟨v + 1, by omega, by go_num, ?_⟩
            rw [HZA.out, HZB.out, if_neg HC.out]; exact HDB.out
          case measure => simp [intOf]; omega
      · have hve : v = n := by omega
        subst hve
        have g0 := hD.g0
        have HD0 : Hid (DI W wr v R cR a b c ba bb (rowD E far v 1 0 0 false) (rowD E far v 1 0 0 true)) := Lib.hid (by
          have e : ∀ d, rowZ E far v v d = rowD E far v 1 0 0 d := fun d => by
            unfold rowZ rowD
            apply List.map_congr_left
            intro u hu
            rw [if_pos (List.mem_range.1 hu)]
          rw [← e, ← e]; exact hD)
        clear hD
        go_wp2_with fail
        rename World => wo
        go_loopw [13] (fun vi wr => ∃ m : Nat, 1 ≤ m ∧ m ≤ 2 * v + 1 ∧ vi = .int .i64 m ∧ DI W wr v R cR a b c ba bb (rowD E far v m 0 0 false) (rowD E far v m 0 0 true)) (fun vi _ => 2 * v + 1 - (intOf vi).toNat)
        case atStart => exact ⟨1, by omega, by omega, rfl, HD0.out⟩
        case round =>
          clear HD0 g0
          obtain ⟨m, hm1, hm2, rfl, hD⟩ := hrel
          have g0 := hD.g0
          by_cases hle : m ≤ 2 * v
          · have hle' : (m : Int) ≤ 2 * (v : Int) := by omega
            go_wp2_with fail
            have HD1 := Lib.hid hD
            clear hD
            rename World => wo2
            go_loopw [14] (fun vi wr => ∃ u : Nat, u ≤ v ∧ vi = .int .i64 u ∧ DI W wr v R cR a b c ba bb (rowD E far v m u 0 false) (rowD E far v m u 0 true)) (fun vi _ => v - (intOf vi).toNat)
            case atStart => exact ⟨0, Nat.zero_le _, rfl, HD1.out⟩
            case round =>
              clear HD1 g0
              obtain ⟨u, hu, rfl, hD⟩ := hrel
              have g0 := hD.g0
              by_cases hlu : u < v
              · have hlu' : (u : Int) < (v : Int) := by omega
                have HAS := Lib.hid (Has5_is (c := d) (HX.out.fr0 hD.fr) (u : Int))
                by_cases hmem : (u : Int) ∈ ws
                · rw [show decide ((u : Int) ∈ ws) = true by simpa using hmem] at HAS
                  have HNX := Lib.hid (fun x d => curD_next HF.out (m := m) (by omega) hlu (show decide ((u : Int) ∈ ws) = true by simpa using hmem) x d)
                  clear hmem
                  go_wp2_with (go_at_call 20; refine (HAS.out).mono ?_; rintro e w' ⟨rfl, rfl⟩)
                  have HD1 := Lib.hid hD
                  clear hD HAS
                  rename World => wo3
                  go_loopw [15] (fun vi wr => ∃ w : Nat, w ≤ v ∧ vi = .int .i64 w ∧ DI W wr v R cR a b c ba bb (rowD E far v m u w false) (rowD E far v m u w true)) (fun vi _ => v - (intOf vi).toNat)
                  case atStart => exact ⟨0, Nat.zero_le _, rfl, HD1.out⟩
                  case round =>
                    clear HD1 g0
                    obtain ⟨w, hw, rfl, hD⟩ := hrel
                    have g0 := hD.g0
                    by_cases hlw : w < v
                    · have hlw' : (w : Int) < (v : Int) := by omega
                      have g1 := hD.g1
                      have HMK := Lib.hid (MaskR_is (c := cR) (HG.out.fr0 hD.fr) (u : Int) (w : Int))
                      have eB : condD E far m u true w = ((bits .and .i64 (maskR v Mx (u : Int) (w : Int)) c != 0) && (far w true == some (m - 1))) := by rw [HE.out]; rfl
                      have eA : condD E far m u false w = (((bits .and .i64 (maskR v Mx (u : Int) (w : Int)) a != 0) && (far w false == some (m - 1))) || ((bits .and .i64 (maskR v Mx (u : Int) (w : Int)) b != 0) && (far w true == some (m - 1)))) := by rw [HE.out]; rfl
                      have sB := rowD_step (E := E) (far := far) (n := v) (m := m) (w := w) (d := true) hlu
                      have sA := rowD_step (E := E) (far := far) (n := v) (m := m) (w := w) (d := false) hlu
                      generalize maskR v Mx (u : Int) (w : Int) = mk at HMK eA eB
                      have HEA := Lib.hid eA
                      have HEB := Lib.hid eB
                      have HSA := Lib.hid sA
                      have HSB := Lib.hid sB
                      have HD1 := Lib.hid hD
                      have hm1' : 1 ≤ (m : Int) := by omega
                      have hm2' : (m : Int) ≤ 2050 := by have := HG.out.1; omega
                      clear eA eB sA sB hD
                      go_upto_region 19 with (go_at_call 21; refine (HMK.out).mono ?_; rintro e w2 ⟨_, rfl, rfl, hf2⟩)
                      have hD := HD1.out.fr0 hf2
                      clear g0 g1 HMK HD1
                      go_cut [93] from 73 to 94 (fun s93 wx => s93 = .bool (testD E far m u w true) ∧ DI W wx v R cR a b c ba bb (rowD E far v m u w false) (rowD E far v m u w true))
                      case first =>
                        have b1 := hD.rb.cell (i := u) (by rw [rowD_len]; exact hlu)
                        have b2 := hD.rb.cell (i := w) (by rw [rowD_len]; exact hlw)
                        have r2 := hD.r2
                        rw [rowD_get hlu] at b1
                        rw [rowD_get hlw] at b2
                        have q1 := encF_neg (curD E far m u w u true)
                        have q2 := (encF_eq (curD E far m u w w true) (m := m) (by omega)).trans (curD_eq (E := E) (far := far) (v := u) (w := w) (u := w) (d := true) (by omega))
                        have HT : Hid (testD E far m u w true = (decide (encF (curD E far m u w u true) < 0) && ((bits .and .i64 mk c != 0) && (encF (curD E far m u w w true) == (m : Int) - 1)))) := Lib.hid (by
                          unfold testD
                          rw [HEB.out]
                          congr 1
                          · rw [decide_eq_decide]; exact q1.symm
                          · congr 1
                            rw [Bool.eq_iff_iff, beq_iff_eq, beq_iff_eq]; exact q2.symm)
                        generalize encF (curD E far m u w u true) = bv at b1 HT
                        generalize encF (curD E far m u w w true) = bw at b2 HT
                        have HD := Lib.hid hD
                        clear q1 q2 hD
                        by_cases h1 : bv < 0
                        · cases h2 : (bits .and .i64 mk c != 0) with
                          | true =>
                            cases h3 : (bw == (m : Int) - 1) with
                            | true =>
                              have HV := Lib.hid (show testD E far m u w true = true by rw [HT.out, h2, h3]; simp [h1])
                              go_wp2_with fail
                              go_meet
                              exact ⟨by rw [HV.out], HD.out⟩
                            | false =>
                              have HV := Lib.hid (show testD E far m u w true = false by rw [HT.out, h2, h3]; simp [h1])
                              go_wp2_with fail
                              go_meet
                              exact ⟨by rw [HV.out], HD.out⟩
                          | false =>
                            have HV := Lib.hid (show testD E far m u w true = false by rw [HT.out, h2]; simp [h1])
                            go_wp2_with fail
                            go_meet
                            exact ⟨by rw [HV.out], HD.out⟩
                        · have HV := Lib.hid (show testD E far m u w true = false by rw [HT.out]; simp [h1])
                          go_wp2_with fail
                          go_meet
                          exact ⟨by rw [HV.out], HD.out⟩
                      case rest =>
                      clear hD hf2
                      obtain ⟨rfl, hD⟩ := hcut
                      obtain ⟨tb, htb⟩ : ∃ tb, testD E far m u w true = tb := ⟨_, rfl⟩
                      rw [htb]
                      have HTB := Lib.hid htb
                      clear htb
                      go_upto_if 93 with (fail)
                      go_cut [] from 94 to 98 (fun wx => DI W wx v R cR a b c ba bb (rowD E far v m u w false) (rowD E far v m u (w + 1) true))
                      case first =>
                        have b1 := hD.rb.cell (i := u) (by rw [rowD_len]; exact hlu)
                        have f1 := hD.rb.frozen u
                        have hDs := hD.setB u (m : Int)
                        have HDS := Lib.hid hDs
                        have HD := Lib.hid hD
                        clear hD hDs
                        cases tb with
                        | true =>
                          go_wp2_with fail
                          go_meet
                          rw [HSB.out, if_pos HTB.out]; exact HDS.out
                        | false =>
                          go_wp2_with fail
                          go_meet
                          rw [HSB.out, if_neg (by rw [HTB.out]; simp)]; exact HD.out
                      case rest =>
                      clear hD
                      have hD := hcut
                      clear hcut
                      clear HTB
                      obtain ⟨w3, hw3⟩ : ∃ w3, w3 = wc := ⟨_, rfl⟩
                      subst hw3
                      go_upto_region 21 with (fail)
                      go_cut [134] from 98 to 135 (fun s134 wx => s134 = .bool (testD E far m u w false) ∧ DI W wx v R cR a b c ba bb (rowD E far v m u w false) (rowD E far v m u (w + 1) true))
                      case first =>
                        have a1 := hD.ra.cell (i := u) (by rw [rowD_len]; exact hlu)
                        have a2 := hD.ra.cell (i := w) (by rw [rowD_len]; exact hlw)
                        have b2 := hD.rb.cell (i := w) (by rw [rowD_len]; exact hlw)
                        have r0 := hD.r0
                        have r1 := hD.r1
                        rw [rowD_get hlu] at a1
                        rw [rowD_get hlw] at a2 b2
                        have q1 := encF_neg (curD E far m u w u false)
                        have q2 := (encF_eq (curD E far m u w w false) (m := m) (by omega)).trans (curD_eq (E := E) (far := far) (v := u) (w := w) (u := w) (d := false) (by omega))
                        have q3 := (encF_eq (curD E far m u (w + 1) w true) (m := m) (by omega)).trans (curD_eq (E := E) (far := far) (v := u) (w := w + 1) (u := w) (d := true) (by omega))
                        have HT : Hid (testD E far m u w false = (decide (encF (curD E far m u w u false) < 0) && (((bits .and .i64 mk a != 0) && (encF (curD E far m u w w false) == (m : Int) - 1)) || ((bits .and .i64 mk b != 0) && (encF (curD E far m u (w + 1) w true) == (m : Int) - 1))))) := Lib.hid (by
                          unfold testD
                          rw [HEA.out]
                          congr 1
                          · rw [decide_eq_decide]; exact q1.symm
                          · congr 1
                            · congr 1
                              rw [Bool.eq_iff_iff, beq_iff_eq, beq_iff_eq]; exact q2.symm
                            · congr 1
                              rw [Bool.eq_iff_iff, beq_iff_eq, beq_iff_eq]; exact q3.symm)
                        generalize encF (curD E far m u w u false) = av at a1 HT
                        generalize encF (curD E far m u w w false) = aw at a2 HT
                        generalize encF (curD E far m u (w + 1) w true) = bw at b2 HT
                        have HD := Lib.hid hD
                        clear q1 q2 q3 hD
                        by_cases h1 : av < 0
                        · cases h2 : (bits .and .i64 mk a != 0) <;> cases h3 : (aw == (m : Int) - 1) <;> cases h4 : (bits .and .i64 mk b != 0) <;> cases h5 : (bw == (m : Int) - 1)
                          all_goals
                            obtain ⟨tv2, htv2⟩ : ∃ tv2, tv2 = testD E far m u w false := ⟨_, rfl⟩
                            have HV := Lib.hid (show testD E far m u w false = (decide (av < 0) && _) from HT.out)
                            rw [h2, h3, h4, h5] at HV
                            simp only [h1, decide_true, Bool.true_and, Bool.and_true, Bool.and_false, Bool.false_or, Bool.or_false, Bool.true_or] at HV
                            clear htv2 tv2 HT
                            go_wp2_with fail
                            go_meet
                            exact ⟨by rw [HV.out], HD.out⟩
                        · have HV := Lib.hid (show testD E far m u w false = false by rw [HT.out]; simp [h1])
                          go_wp2_with fail
                          go_meet
                          exact ⟨by rw [HV.out], HD.out⟩
                      case rest =>
                      clear hD
                      obtain ⟨rfl, hD⟩ := hcut
                      obtain ⟨tb, htb⟩ : ∃ tb, testD E far m u w false = tb := ⟨_, rfl⟩
                      rw [htb]
                      have HTB := Lib.hid htb
                      clear htb
                      have a1 := hD.ra.cell (i := u) (by rw [rowD_len]; exact hlu)
                      have f1 := hD.ra.frozen u
                      have hDs := hD.setA u (m : Int)
                      have HDS := Lib.hid hDs
                      have HD := Lib.hid hD
                      clear hD hDs
                      cases tb with
                      | true =>
                        go_wp2_with fail
                        go_roundw
                        case rel =>
                          refine ⟨w + 1, by omega, by go_num, ?_⟩
                          rw [HSA.out, if_pos HTB.out]; exact HDS.out
                        case measure => simp [intOf]; omega
                      | false =>
                        go_wp2_with fail
                        go_roundw
                        case rel =>
                          refine ⟨w + 1, by omega, by go_num, ?_⟩
                          rw [HSA.out, if_neg (by rw [HTB.out]; simp)]; exact HD.out
                        case measure => simp [intOf]; omega
                    · have hwe : w = v := by omega
                      subst hwe
                      have HD2 : Hid (DI W wr w R cR a b c ba bb (rowD E far w m (u + 1) 0 false) (rowD E far w m (u + 1) 0 true)) := Lib.hid (by
                        rw [← rowD_congr (fun x hx => HNX.out x false), ← rowD_congr (fun x hx => HNX.out x true)]; exact hD)
                      clear hD
                      go_wp2_with fail
                      go_roundw
                      case rel => exact ⟨u + 1, by omega, by go_num, HD2.out⟩
                      case measure => simp [intOf]; omega
                · rw [show decide ((u : Int) ∈ ws) = false by simpa using hmem] at HAS
                  have HD2 : Hid (DI W wr v R cR a b c ba bb (rowD E far v m (u + 1) 0 false) (rowD E far v m (u + 1) 0 true)) := Lib.hid (by
                    have e := fun d => rowD_congr (n := v) (fun x hx => curD_skip HF.out (m := m) (v := u) (show decide ((u : Int) ∈ ws) = false by simpa using hmem) x d)
                    rw [← e, ← e]; exact hD)
                  clear hmem hD
                  go_wp2_with (go_at_call 20; refine (HAS.out).mono ?_; rintro e w' ⟨rfl, rfl⟩)
                  go_roundw
                  case rel => exact ⟨u + 1, by omega, by go_num, HD2.out⟩
                  case measure => simp [intOf]; omega
              · have hue : u = v := by omega
                subst hue
                have HD2 : Hid (DI W wr u R cR a b c ba bb (rowD E far u (m + 1) 0 0 false) (rowD E far u (m + 1) 0 0 true)) := Lib.hid (by
                  have e := fun d => rowD_congr (n := u) (fun x hx => curD_end (E := E) (far := far) (m := m) (d := d) hx)
                  rw [← e, ← e]; exact hD)
                clear hD
                go_wp2_with fail
                go_roundw
                case rel => exact ⟨m + 1, by omega, by omega, by go_num, HD2.out⟩
                case measure => simp [intOf]; omega
          · have hme : m = 2 * v + 1 := by omega
            subst hme
            have HD2 : Hid (IntRow wr ba ((List.range v).map (fun u => encF (far u false))) ∧ IntRow wr bb ((List.range v).map (fun u => encF (far u true)))) := Lib.hid (by
              have e : ∀ d, rowD E far v (2 * v + 1) 0 0 d = (List.range v).map (fun u => encF (far u d)) := fun d => by
                unfold rowD
                apply List.map_congr_left
                intro u hu
                rw [curD_start, Nat.add_sub_cancel, cutF_all (fun a b k h => HBD.out a b k h)]
              have h1 := hD.ra
              have h2 := hD.rb
              rw [e] at h1 h2
              exact ⟨h1, h2⟩)
            have hfr := hD.fr
            have hne := hD.ne
            have hle' : ¬ (((2 * v + 1 : Nat)) : Int) ≤ 2 * (v : Int) := by omega
            clear hD
            go_wp2_with fail
            go_ret2
            exact ⟨_, rfl, ba, bb, rfl, hfr, HD2.out.1, HD2.out.2, by omega, by omega⟩
end Go.Proofs.YtdcjfpjpboafnaaDoor
