/- CycleOne walked. -/
import Derived.Test.YtjijoghbcbdohaaWorks26
namespace Go.Proofs.Ytjijoghbcbdohaa
set_option linter.all false
open Go.RowKit
attribute [local go_sem ↓] appendH_eq
set_option maxRecDepth 100000

/-- Two rows, in a row of one's own. -/
theorem two_rows {W : World} {A B : Option Addr} {c d : Nat} {us ws : List Int} (hA : ∀ w, Fr0 W w → IntsAt w A us) (hp : Plain A us.length c) (hB : ∀ w, Fr0 W w → IntsAt w B ws) (hp2 : Plain B ws.length d) (h1 : us.length ≤ 1000) (h2 : ws.length ≤ 1000) :
    ∃ v1 w1 v2 w2, (appendH #[22, 22] 22 #[.slice (some ⟨W.heap.size, 0, none⟩) 0 0, .slice A us.length c]).run Try.prog (W.alloc (.cells #[] 3)).drew = .ok v1 w1 ∧
      (appendH #[22, 22] 22 #[v1, .slice B ws.length d]).run Try.prog w1 = .ok v2 w2 ∧ Fr0 W w2 ∧ w2.ownsRow W.heap.size 3 1 v2 (us ++ ws).length (intsI (us ++ ws)) := by
  have hN : (W.alloc (.cells #[] 3)).drew.heap[W.heap.size]? = some (.cells #[] 3 (0, 0)) := World.alloc_heap_new W (.cells #[] 3)
  have F0 : Fr0 W (W.alloc (.cells #[] 3)).drew := (fr_alloc _ _ _).drew
  obtain ⟨v1, w1, r1, o1, f1⟩ := run_append_lit hN (hA _ F0) hp (by omega) 22 (B := W.heap.size) (Nat.le_refl _)
  have F1 : Fr0 W w1 := F0.trans0 f1
  obtain ⟨v2, w2, r2, o2, f2⟩ := run_append_ints o1 (hB _ F1) hp2 (by omega) F1.size 22
  exact ⟨v1, w1, v2, w2, r1, r2, F1.trans (append_fr0 o1 f2) (fun j hj e => own_old o1 hj e), o2⟩
set_option maxHeartbeats 8000000 in
theorem CycleOne_is {W : World} {at_ : Int} {A : Option Addr} {c : Nat} {xs : List Int} (hx : IntsAt W A xs) (hp : Plain A xs.length c) (hcp : xs.length ≤ c) (hat : (Lit.int .u8 at_).wf = true) :
    Calls Try.prog 4 #[.slice A xs.length c, .int .u8 at_] W (Rets (SamePost true W)) := by
  by_cases hbig : (60 : Int) < (xs.length : Int)
  · go_enter Try.func4, Try.ntmps4
    go_wp2_with (go_at_call 8; refine (works26_is _).mono ?_; rintro e w' ⟨_, rfl, rfl, hf⟩)
    go_ret
    exact ⟨_, rfl, rfl, hf⟩
  · have hlen : xs.length ≤ 60 := by omega
    have HS := Lib.hid (Simple26_is (c := c) hx (by omega))
    cases hs : simpleC xs with
    | false =>
      rw [hs] at HS
      go_enter Try.func4, Try.ntmps4
      go_wp2_with (first | (go_at_call 8; refine (works26_is _).mono ?_; rintro e w' ⟨_, rfl, rfl, hf⟩) | (go_at_call 13; refine (HS.out).mono ?_; rintro e w1 ⟨_, rfl, rfl, hf1⟩))
      go_ret
      exact ⟨_, rfl, rfl, hf1.trans0 hf⟩
    | true =>
      have hs' := hs
      unfold simpleC at hs'
      rw [Bool.and_eq_true, decide_eq_true_eq, decide_eq_true_eq] at hs'
      obtain ⟨hgt, hof⟩ := hs'
      have hnd := nodup_of_len hof
      obtain ⟨a, rfl, ha⟩ : ∃ a : Nat, at_ = (a : Int) ∧ a < 256 := by
        have := hat
        simp [Lit.wf, IntKind.min, IntKind.max, IntKind.signed, IntKind.bits] at this
        exact ⟨at_.toNat, by omega, by omega⟩
      have hk : a % xs.length < xs.length := Nat.mod_lt _ (by omega)
      have hmod := tmod_nat a xs.length
      have hwa : IntKind.i64.wrap (a : Int) = (a : Int) := by rw [IntKind.wrap_i64]; omega
      have hne : ¬ (xs.length : Int) = 0 := by omega
      generalize a % xs.length = k at hk hmod
      have hT1 : turnL (rotC xs k) = turnL xs := turnL_rot hnd hk
      have hT2 := turnL_turnL xs
      have hS2 : simpleC (rotC xs k) = true := by
        unfold simpleC
        rw [Bool.and_eq_true, decide_eq_true_eq, decide_eq_true_eq, rotC_len xs (by omega)]
        exact ⟨hgt, by have := (simple_rot (c := xs) (k := k) (by omega)).2 hof; rwa [rotC_len xs (by omega)] at this⟩
      have hrl := rotC_len xs (b := k) (by omega)
      have hul := turnL_len xs
      rw [hs] at HS
      obtain ⟨A1, c1, hsl, hp1, hc1, hi1⟩ := slice_tailT hp hcp (i := k) (by omega)
      obtain ⟨hsh, hp2⟩ := slice_headI hp hcp (i := k) (by omega)
      have hl1 : (xs.drop k).length ≤ 1000 := by rw [List.length_drop]; omega
      have hl2 : (xs.take k).length ≤ 1000 := by rw [List.length_take]; omega
      have HROT : Hid (rotC xs k = xs.drop k ++ xs.take k) := Lib.hid rfl
      have HX := Lib.hid hx
      have HI1 : Hid (∀ w, Fr0 W w → IntsAt w A1 (xs.drop k)) := Lib.hid (fun w f => hi1 w (HX.out.fr0 f))
      have HI2 : Hid (∀ w, Fr0 W w → IntsAt w A (xs.take k)) := Lib.hid (fun w f => (HX.out.fr0 f).take k)
      have HT := Lib.hid (fun (w : World) (f : Fr0 W w) => Turn_is (c := c) (HX.out.fr0 f) hp hcp (by omega))
      have HTD := Lib.hid (fun (w : World) (A2 : Option Addr) (c2 : Nat) (h : IntsAt w A2 (rotC xs k)) (g : Plain A2 (rotC xs k).length c2) (g2 : (rotC xs k).length ≤ c2) => Turn_is h g g2 (by omega))
      have HCD := Lib.hid (fun (w : World) (f : Fr0 W w) (A2 : Option Addr) (c2 : Nat) (h : IntsAt w A2 (rotC xs k)) (g : Plain A2 (rotC xs k).length c2) (g2 : (rotC xs k).length ≤ c2) => Compare_is (c := c) (HX.out.fr0 f) hp hcp h g g2 (by omega) (by omega))
      have HSD := Lib.hid (fun (w : World) (A2 : Option Addr) (c2 : Nat) (h : IntsAt w A2 (rotC xs k)) (g : Plain A2 (rotC xs k).length c2) => Simple_is h g (by omega))
      have HTT := Lib.hid (fun (w : World) (A2 : Option Addr) (c2 : Nat) (h : IntsAt w A2 (turnL xs)) (g : Plain A2 (turnL xs).length c2) (g2 : (turnL xs).length ≤ c2) => Turn_is h g g2 (by omega))
      rw [hT1] at HTD HCD
      rw [hT2] at HTT
      rw [hS2] at HSD
      rw [cmpS_self] at HCD
      have hul2 : (turnL xs).length ≤ 1000 := by omega
      have hrl2 : (rotC xs k).length ≤ 1000 := by omega
      have HP1 := Lib.hid hp1
      have HP2 := Lib.hid hp2
      have hk' : (k : Int) < (xs.length : Int) := by omega
      clear hx hp hp1 hp2 hi1 hs hof hnd hT1 hT2 hS2 hrl hul
      unfold IListPost at HT HTD HTT
      generalize turnL xs = us at *
      generalize rotC xs k = ds at *
      generalize xs.drop k = ys at *
      generalize xs.take k = zs at *
      go_enter Try.func4, Try.ntmps4
      go_upto_region 4 with (go_at_call 13; refine (HS.out).mono ?_; rintro e w1 ⟨_, rfl, rfl, hf1⟩)
      obtain ⟨v2, wa, v3, wb, r1, r2, F2, o2⟩ := two_rows (W := w1) (fun w f => HI1.out w (hf1.trans0 f)) HP1.out (fun w f => HI2.out w (hf1.trans0 f)) HP2.out hl1 hl2
      have hFb := hf1.trans0 F2
      rw [← HROT.out] at o2
      obtain ⟨A3, c3, rfl⟩ := own_form o2
      have HOD := Lib.hid o2
      have HFb := Lib.hid hFb
      clear o2 F2 hFb
      go_region
      have HDI := Lib.hid (fun (w : World) (f : Fr0 wb w) => (own_intsI HOD.out (Nat.le_trans hrl2 (Nat.le_of_ble_eq_true rfl))).fr0 f)
      have HDP := Lib.hid (plain_own HOD.out)
      have HDC := Lib.hid (own_cap HOD.out)
      have hul3 : us.length ≤ 1000000 := by omega
      go_wp2_with (first
        | (go_at_call 8; refine (works26_is _).mono ?_; rintro e w' ⟨_, rfl, rfl, hf⟩)
        | (go_at_call 12; refine (HSD.out wh A3 c3 (HDI.out _ hFh) HDP.out).mono ?_; rintro e wi ⟨_, rfl, rfl, hfi⟩)
        | (go_at_call 9; refine (SameO_is ho7 (own_fr0 ho5 (hFf.trans0 hf7)) hul3).mono ?_; rintro e wh ⟨_, rfl, rfl, hfh⟩; have hFh := hFwf.trans0 (hf7.trans0 hfh))
        | (go_at_call 10; refine (HTT.out wf A5 c5 (own_intsI (own_fr0 ho5 hFf) (Nat.le_trans hul2 (Nat.le_of_ble_eq_true rfl))) (plain_own ho5) (own_cap ho5)).mono ?_; rintro e wg ⟨v7, rfl, hf7, ho7⟩; obtain ⟨A7, c7, rfl⟩ := own_form ho7)
        | (go_at_call 14; refine (HCD.out we ((HFb.out.trans0 hf5).trans0 (hf6.trans0 hfe)) A3 c3 (HDI.out _ (hf5.trans0 (hf6.trans0 hfe))) HDP.out HDC.out).mono ?_; rintro e wf ⟨_, rfl, rfl, hff⟩; have hFf : Fr0 wc wf := (hf6.trans0 hfe).trans0 hff; have hFwf : Fr0 wb wf := hf5.trans0 hFf)
        | (go_at_call 9; refine (SameO_is (own_fr0 ho5 hf6) ho6 hul3).mono ?_; rintro e we ⟨_, rfl, rfl, hfe⟩)
        | (go_at_call 10; refine (HTD.out wc A3 c3 (HDI.out _ hf5) HDP.out HDC.out).mono ?_; rintro e wd ⟨v6, rfl, hf6, ho6⟩; obtain ⟨A6, c6, rfl⟩ := own_form ho6)
        | (go_at_call 10; refine (HT.out wb HFb.out).mono ?_; rintro e wc ⟨v5, rfl, hf5, ho5⟩; obtain ⟨A5, c5, rfl⟩ := own_form ho5))
      go_ret
      exact ⟨_, rfl, rfl, HFb.out.trans0 ((hFh.trans0 hfi).trans0 hf)⟩
end Go.Proofs.Ytjijoghbcbdohaa
