/- The masks of a cycle's arcs: the program's, and the document's, walked. -/
import Derived.Test.YtidpmbbkpclccaaMaskG
import Derived.Test.YtidpmbbkpclccaaCyRef
import Derived.Deep.RegionHeldLaw
namespace Go.Proofs.Ytidpmbbkpclccaa
set_option linter.all false
open Go.RowKit
set_option maxRecDepth 100000

/-- The mask of the arc from a cycle's k-th vertex. -/
def mkM (M : Int → Int → Int) (c : List Int) (k : Nat) : Int := M (c.getD k 0) (c.getD ((k + 1) % c.length) 0)
/-- All masks, if none is 0 and there is one. -/
def masksO (M : Int → Int → Int) (c : List Int) : Option (List Int) :=
  if c.length = 0 ∨ (List.range c.length).any (fun k => mkM M c k == 0) = true then none else some ((List.range c.length).map (mkM M c))
theorem masksO_no {M : Int → Int → Int} {c : List Int} {k : Nat} (hk : k < c.length) (h : mkM M c k = 0) : masksO M c = none := by
  unfold masksO
  rw [if_pos (.inr (List.any_eq_true.2 ⟨k, List.mem_range.2 hk, by simp [h]⟩))]
theorem masksO_yes {M : Int → Int → Int} {c : List Int} (h0 : 0 < c.length) (h : ∀ k, k < c.length → mkM M c k ≠ 0) : masksO M c = some ((List.range c.length).map (mkM M c)) := by
  unfold masksO
  rw [if_neg]
  rintro (e | e)
  · omega
  · obtain ⟨k, hk, e⟩ := List.any_eq_true.1 e
    exact h k (List.mem_range.1 hk) (by simpa using e)
theorem two_cells26 (W : World) (u v : Value) (t : Nat) : (W.alloc (.cells #[u, v] t)).cell? ⟨W.heap.size, 0, none⟩ = some u ∧ (W.alloc (.cells #[u, v] t)).cell? ⟨W.heap.size, 1, none⟩ = some v := by
  have h := World.alloc_heap_new W (.cells #[u, v] t)
  constructor <;> (unfold World.cell?; rw [h]; rfl)
theorem own_base26 {W : World} {e size B B0 n : Nat} {v : Value} {xs : List Value} (h : W.ownsRow B e size v n xs) (hB : B0 ≤ B) : W.ownsRow B0 e size v n xs := by
  refine ⟨h.1, h.2.imp id ?_⟩
  rintro ⟨g, cap, cur, rfl, hb, rest⟩
  exact ⟨g, cap, cur, rfl, Nat.le_trans hB hb, rest⟩
def MsPost (W : World) (o : Option (List Int)) (v : Value) (w' : World) : Prop := Fr0 W w' ∧ match o with
  | none => v = .tuple #[.slice none 0 0, .bool false]
  | some l => ∃ A c, v = .tuple #[.slice A l.length c, .bool true] ∧ w'.ownsRow W.heap.size 3 1 (.slice A l.length c) l.length (intsI l)
theorem range_snoc (f : Nat → Int) (k : Nat) : (List.range (k + 1)).map f = (List.range k).map f ++ [f k] := by rw [List.range_succ, List.map_append]; rfl
set_option maxHeartbeats 4000000 in
theorem CMasks_is {W : World} {p : Value} {M : Int → Int → Int} (hM : ∀ w, Fr0 W w → ∀ u t, Calls Try.prog 20 #[p, .int .i64 u, .int .i64 t] w (Rets (IntPost (M u t) w)))
    {A : Option Addr} {c : Nat} {xs : List Int} (hx : IntsAt W A xs) (hsm : xs.length ≤ 1000) :
    Calls Try.prog 8 #[p, .slice A xs.length c] W (Rets (MsPost W (masksO M xs))) := by
  obtain ⟨i0, hi, hz0, hz1, hz2⟩ := info_parts info_int
  have HM := Lib.hid hM
  have HX := Lib.hid hx
  clear hM hx
  go_enter Try.func8, Try.ntmps8
  go_wp2_with fail
  go_loopw [6, 7, 8, 9, 12] (fun v6 v7 v8 v9 v12 wr => ∃ k : Nat, k ≤ xs.length ∧ v12 = .int .i64 k ∧ Hid (∀ j, j < k → mkM M xs j ≠ 0) ∧ Fr0 W wr ∧ Hid (wr.ownsRow W.heap.size 3 1 v6 k (intsI ((List.range k).map (mkM M xs)))) ∧ (k = 0 → v6 = .slice none 0 0)) (fun _ _ _ _ v12 _ => xs.length - (intOf v12).toNat)
  case atStart => exact ⟨0, by omega, rfl, Lib.hid (fun j hj => by omega), Fr.refl _ _, Lib.hid (own_nil _ _ _ _), fun _ => rfl⟩
  case round =>
    obtain ⟨k, hk, rfl, HNZ, hf, HO, HV⟩ := hrel
    have HV := Lib.hid HV
    by_cases hlt : k < xs.length
    · have hlt' : (k : Int) < (xs.length : Int) := by omega
      have hml : (k + 1) % xs.length < xs.length := Nat.mod_lt _ (by omega)
      have hmod := tmod_nat (k + 1) xs.length
      rw [show ((k + 1 : Nat) : Int) = (k : Int) + 1 by omega] at hmod
      have hn0 : ¬ (xs.length : Int) = 0 := by omega
      have hwr : IntKind.i64.wrap ((k : Int) + 1) = (k : Int) + 1 := by rw [IntKind.wrap_i64]; omega
      obtain ⟨b, o, rfl, hc⟩ := (HX.out.fr0 hf).at_ hlt
      obtain ⟨_, _, e2, hc2⟩ := (HX.out.fr0 hf).at_ hml
      cases e2
      have HMK : Hid (mkM M xs k = M (xs.getD k 0) (xs.getD ((k + 1) % xs.length) 0)) := Lib.hid rfl
      generalize xs.getD ((k + 1) % xs.length) 0 = t at hc2 HMK
      generalize xs.getD k 0 = u at hc HMK
      generalize (k + 1) % xs.length = q at hc2 hml hmod
      have hml' : (q : Int) < (xs.length : Int) := by omega
      have HC := Lib.hid (HM.out wr hf u t)
      rw [← HMK.out] at HC
      by_cases hz : mkM M xs k = 0
      · have hr := masksO_no hlt hz
        rw [hz] at HC
        have HR := Lib.hid hr
        clear hz hr
        go_wp2_with (go_at_call 20; refine (HC.out).mono ?_; rintro e w2 ⟨_, rfl, rfl, hf2⟩)
        go_ret2
        rw [HR.out]
        exact ⟨_, rfl, hf.trans0 hf2, rfl⟩
      · have HNZ2 : Hid (∀ j, j < k + 1 → mkM M xs j ≠ 0) := Lib.hid (fun j hj => by
          by_cases e : j = k
          · rw [e]; exact hz
          · exact HNZ.out j (by omega))
        have HSN := Lib.hid (range_snoc (mkM M xs) k)
        generalize mkM M xs k = y at hz HC HSN
        have b0 : (y == 0) = false := by simpa using hz
        have hsz := hf.size
        clear hz
        go_wp2_with (first
          | (go_at_call 20; refine (HC.out).mono ?_; rintro e w2 ⟨_, rfl, rfl, hf2⟩; have hF2 := hf.trans0 hf2)
          | (at_builtin; refine wpList_append_own _ rfl _ _ 23 rfl W.heap.size 3 i0 (.int .i64 0) 1 8 Try.underlying23 hi hz0 hz1 hz2 rfl (by decide) _ _ _ rfl (own_fr0 (own_fr0 HO.out hf2) (fr_alloc _ _ _)) _ 1 1 [.int .i64 y] rfl rfl (cell_one_new _ _ _) (by simp [Value.oneCell']) (by unfold maxLen; omega) (by omega) (by have := hF2.size; simp; omega) ?_; intro v' w3 hown' hgrow _))
        go_roundw
        case rel =>
          rw [intsI_snoc, ← HSN.out] at hown'
          exact ⟨k + 1, by omega, by go_num, HNZ2, (hF2.alloc _).trans (append_fr0 (own_fr0 (own_fr0 HO.out hf2) (fr_alloc _ _ _)) hgrow) (fun j hj e => own_old HO.out hj e), Lib.hid hown', fun h => absurd h (by omega)⟩
        case measure => simp [intOf]; omega
    · have hke : k = xs.length := by omega
      subst hke
      have hge : ¬ (xs.length : Int) < (xs.length : Int) := by omega
      by_cases h0 : 0 < xs.length
      · have h0' : (0 : Int) < (xs.length : Int) := by omega
        have hr := masksO_yes h0 HNZ.out
        have HR := Lib.hid hr
        obtain ⟨A6, c6, rfl⟩ := own_form HO.out
        clear hr
        go_wp2_with fail
        go_ret2
        rw [HR.out]
        have hle : ((List.range xs.length).map (mkM M xs)).length = xs.length := by simp
        exact ⟨_, rfl, hf, A6, c6, by rw [hle]; rfl, by rw [hle]; exact HO.out⟩
      · have h0' : ¬ (0 : Int) < (xs.length : Int) := by omega
        have hl0 : xs.length = 0 := by omega
        have hr : masksO M xs = none := by unfold masksO; rw [if_pos (.inl hl0)]
        have HR := Lib.hid hr
        have hv := HV.out hl0
        subst hv
        clear hr
        go_wp2_with fail
        go_ret2
        rw [HR.out]
        exact ⟨_, rfl, hf, rfl⟩
set_option maxHeartbeats 4000000 in
theorem Masks26_is {W : World} {n cR : Nat} {R : Option Addr} {M : Int → Int → Int} (hM : ∀ w, Fr0 W w → ∀ u t, Calls Try.prog 21 #[.agg #[.int .i64 (n : Int), .slice R n cR], .int .i64 u, .int .i64 t] w (Rets (IntPost (M u t) w)))
    {A : Option Addr} {c : Nat} {xs : List Int} (hx : IntsAt W A xs) (hsm : xs.length ≤ 1000) :
    Calls Try.prog 9 #[.agg #[.int .i64 (n : Int), .slice R n cR], .slice A xs.length c] W (Rets (MsPost W (masksO M xs))) := by
  obtain ⟨i0, hi, hz0, hz1, hz2⟩ := info_parts info_int
  have HM := Lib.hid hM
  have HX := Lib.hid hx
  obtain ⟨W0, hW0⟩ : ∃ W0, W0 = W.alloc (.cells #[.int .i64 (n : Int), .slice R n cR] 36) := ⟨_, rfl⟩
  obtain ⟨g0, g1⟩ := two_cells26 W (.int .i64 (n : Int)) (.slice R n cR) 36
  rw [← hW0] at g0 g1
  have HF0 : Hid (Fr0 W W0) := Lib.hid (by rw [hW0]; exact fr_alloc _ _ _)
  have hlt0 : W.heap.size < W0.heap.size := by rw [hW0, World.size_alloc]; omega
  clear hM hx
  go_enter Try.func9, Try.ntmps9
  go_wp2_with fail
  rw [← hW0]
  clear hW0
  go_loopw [6, 7, 8] (fun v6 v7 v8 wr => ∃ k : Nat, k ≤ xs.length ∧ v7 = .int .i64 k ∧ Hid (∀ j, j < k → mkM M xs j ≠ 0) ∧ Fr0 W0 wr ∧ Hid (wr.ownsRow W0.heap.size 3 1 v6 k (intsI ((List.range k).map (mkM M xs)))) ∧ (k = 0 → v6 = .slice none 0 0)) (fun _ v7 _ _ => xs.length - (intOf v7).toNat)
  case atStart => exact ⟨0, by omega, rfl, Lib.hid (fun j hj => by omega), Fr.refl _ _, Lib.hid (own_nil _ _ _ _), fun _ => rfl⟩
  case round =>
    obtain ⟨k, hk, rfl, HNZ, hf, HO, HV⟩ := hrel
    have HV := Lib.hid HV
    have hF := HF0.out.trans0 hf
    by_cases hlt : k < xs.length
    · have hlt' : (k : Int) < (xs.length : Int) := by omega
      have hml : (k + 1) % xs.length < xs.length := Nat.mod_lt _ (by omega)
      have hmod := tmod_nat (k + 1) xs.length
      rw [show ((k + 1 : Nat) : Int) = (k : Int) + 1 by omega] at hmod
      have hn0 : ¬ (xs.length : Int) = 0 := by omega
      have hxn : ¬ xs = [] := fun h => by rw [h] at hlt; cases hlt
      have hwr : IntKind.i64.wrap ((k : Int) + 1) = (k : Int) + 1 := by rw [IntKind.wrap_i64]; omega
      obtain ⟨b, o, rfl, hc⟩ := (HX.out.fr0 hF).at_ hlt
      obtain ⟨_, _, e2, hc2⟩ := (HX.out.fr0 hF).at_ hml
      cases e2
      have HMK : Hid (mkM M xs k = M (xs.getD k 0) (xs.getD ((k + 1) % xs.length) 0)) := Lib.hid rfl
      generalize xs.getD ((k + 1) % xs.length) 0 = t at hc2 HMK
      generalize xs.getD k 0 = u at hc HMK
      generalize (k + 1) % xs.length = q at hc2 hml hmod
      have hml' : (q : Int) < (xs.length : Int) := by omega
      have HC := Lib.hid (fun (w : World) (f : Fr0 wr w) => HM.out w (hF.trans0 f) u t)
      rw [← HMK.out] at HC
      have KS := Lib.hid (show ∀ w', Fr0 wr w' → (Fr0 wr w' ∧ w'.cell? ⟨W.heap.size, 0, none⟩ = some (.int .i64 (n : Int)) ∧ w'.cell? ⟨W.heap.size, 1, none⟩ = some (.slice R n cR) ∧ w'.cell? ⟨b, o + k, none⟩ = some (.int .i64 u) ∧ w'.cell? ⟨b, o + q, none⟩ = some (.int .i64 t)) from fun w' f => ⟨f, f.cell (hf.cell g0 (fun x => x)) (fun x => x), f.cell (hf.cell g1 (fun x => x)) (fun x => x), f.cell hc (fun x => x), f.cell hc2 (fun x => x)⟩)
      have hg0 := hf.cell g0 (fun x => x)
      have hg1 := hf.cell g1 (fun x => x)
      by_cases hz : mkM M xs k = 0
      · have hr := masksO_no hlt hz
        rw [hz] at HC
        have HR := Lib.hid hr
        clear hz hr
        go_wp2_with fail
        go_region_held_law (fun w' => Fr0 wr w' ∧ w'.cell? ⟨W.heap.size, 0, none⟩ = some (.int .i64 (n : Int)) ∧ w'.cell? ⟨W.heap.size, 1, none⟩ = some (.slice R n cR) ∧ w'.cell? ⟨b, o + k, none⟩ = some (.int .i64 u) ∧ w'.cell? ⟨b, o + q, none⟩ = some (.int .i64 t))
          ((refine KS.out _ ?_; first | assumption | exact fr_drew _ _))
          (first | (go_at_call 21; (with_reducible refine (HC.out _ (And.left (by assumption))).mono ?_); rintro e w2 ⟨_, rfl, rfl, hf2⟩; have hf3 : Fr0 wr w2 := Fr.trans0 (And.left (by assumption)) hf2))
        go_wp2_with fail
        go_ret2
        rw [HR.out]
        exact ⟨_, rfl, hF.trans0 hf3, rfl⟩
      · have HNZ2 : Hid (∀ j, j < k + 1 → mkM M xs j ≠ 0) := Lib.hid (fun j hj => by
          by_cases e : j = k
          · rw [e]; exact hz
          · exact HNZ.out j (by omega))
        have HSN := Lib.hid (range_snoc (mkM M xs) k)
        generalize mkM M xs k = y at hz HC HSN
        have b0 : (y == 0) = false := by simpa using hz
        have hsz := hf.size
        clear hz
        go_wp2_with fail
        go_region_held_law (fun w' => Fr0 wr w' ∧ w'.cell? ⟨W.heap.size, 0, none⟩ = some (.int .i64 (n : Int)) ∧ w'.cell? ⟨W.heap.size, 1, none⟩ = some (.slice R n cR) ∧ w'.cell? ⟨b, o + k, none⟩ = some (.int .i64 u) ∧ w'.cell? ⟨b, o + q, none⟩ = some (.int .i64 t))
          ((refine KS.out _ ?_; first | assumption | exact fr_drew _ _))
          (first | (go_at_call 21; (with_reducible refine (HC.out _ (And.left (by assumption))).mono ?_); rintro e w2 ⟨_, rfl, rfl, hf2⟩; have hf3 : Fr0 wr w2 := Fr.trans0 (And.left (by assumption)) hf2))
        have hF2 := hf.trans0 hf3
        have HO2 := own_fr0 HO.out hf3
        go_wp2_with (at_builtin; refine wpList_append_own _ rfl _ _ 23 rfl W0.heap.size 3 i0 (.int .i64 0) 1 8 Try.underlying23 hi hz0 hz1 hz2 rfl (by decide) _ _ _ rfl (own_fr0 HO2 (fr_alloc _ _ _)) _ 1 1 [.int .i64 y] rfl rfl (cell_one_new _ _ _) (by simp [Value.oneCell']) (by unfold maxLen; omega) (by omega) (by have := hF2.size; simp; omega) ?_; intro v' w3 hown' hgrow _)
        go_roundw
        case rel =>
          rw [intsI_snoc, ← HSN.out] at hown'
          exact ⟨k + 1, by omega, by go_num, HNZ2, (hF2.alloc _).trans (append_fr0 (own_fr0 HO2 (fr_alloc _ _ _)) hgrow) (fun j hj e => own_old HO.out hj e), Lib.hid hown', fun h => absurd h (by omega)⟩
        case measure => simp [intOf]; omega
    · have hke : k = xs.length := by omega
      subst hke
      have hge : ¬ (xs.length : Int) < (xs.length : Int) := by omega
      by_cases h0 : 0 < xs.length
      · have h0' : (0 : Int) < (xs.length : Int) := by omega
        have hr := masksO_yes h0 HNZ.out
        have HR := Lib.hid hr
        obtain ⟨A6, c6, rfl⟩ := own_form HO.out
        clear hr
        go_wp2_with fail
        go_ret2
        rw [HR.out]
        have hle : ((List.range xs.length).map (mkM M xs)).length = xs.length := by simp
        exact ⟨_, rfl, hF, A6, c6, by rw [hle]; rfl, by rw [hle]; exact own_base26 HO.out (by omega)⟩
      · have h0' : ¬ (0 : Int) < (xs.length : Int) := by omega
        have hl0 : xs.length = 0 := by omega
        have hr : masksO M xs = none := by unfold masksO; rw [if_pos (.inl hl0)]
        have HR := Lib.hid hr
        have hv := HV.out hl0
        subst hv
        clear hr
        go_wp2_with fail
        go_ret2
        rw [HR.out]
        exact ⟨_, rfl, hF, rfl⟩
end Go.Proofs.Ytidpmbbkpclccaa
