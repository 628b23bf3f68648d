/- The closed walk that is told fits: the law's walk. -/
import Derived.Test.YtdcjfpjpboafnaaDoorWalkFitsP
namespace Go.Proofs.YtdcjfpjpboafnaaDoor
set_option linter.all false
open Go.RowKit
set_option maxRecDepth 100000

set_option maxHeartbeats 8000000 in
theorem WalkFits_is {W : World} {n t a b c : Int} {A B : Option Addr} {cA d : Nat} {l : List ArcI} {xs : List Int} (hT : Tab W) (hl : ArcsAt W A l) (hP : Plain A l.length cA) (hx : IntsAt W B xs) (hp : Plain B xs.length d) (ht : (Lit.int .i64 t).wf = true) :
    Calls Tryd.prog 6 #[.int .i64 n, .slice A l.length cA, .slice B xs.length d, .agg #[.int .i64 a, .int .i64 b, .int .i64 c], .int .i64 t] W (Rets (SamePost true W)) := by
  have hf0 : Fr0 W (W.alloc (.cells #[.int .i64 a, .int .i64 b, .int .i64 c] 26)) := fr_alloc _ _ _
  have hB0 := three_held (w0 := W) (x := .int .i64 a) (y := .int .i64 b) (z := .int .i64 c) (t := 26)
  obtain ⟨w0, hw0⟩ : ∃ w0, W.alloc (.cells #[.int .i64 a, .int .i64 b, .int .i64 c] 26) = w0 := ⟨_, rfl⟩
  rw [hw0] at hf0 hB0
  have HF := Lib.hid (Few_is (c := cA) (hl.fr0 hf0) n 30 200)
  have HT := Lib.hid (hT.fr hf0 (fun x => x))
  have HL := Lib.hid (hl.fr0 hf0)
  have HX := Lib.hid (hx.fr0 hf0)
  have HW := Lib.hid (works25_is HT.out)
  have HB := Lib.hid hB0
  clear hB0
  go_enter Tryd.func6, Tryd.ntmps6
  cases hf : fewI n l 30 200 with
  | false =>
    rw [hf] at HF
    clear hl hT hP hf hx hp HB
    go_wp2_with (first
      | (go_at_call 11; (try rw [hw0]); refine (HF.out).mono ?_; rintro e w' ⟨rfl, rfl⟩)
      | (go_at_call 10; refine (HW.out).mono ?_; rintro e w' ⟨_, rfl, rfl, hf1⟩))
    go_ret
    exact ⟨_, rfl, rfl, hf0.trans0 hf1⟩
  | true =>
    rw [hf] at HF
    by_cases h60 : xs.length > 60
    · have h60' : (xs.length : Int) > 60 := by omega
      clear hl hT hP hf hx hp HB
      go_wp2_with (first
        | (go_at_call 11; (try rw [hw0]); refine (HF.out).mono ?_; rintro e w' ⟨rfl, rfl⟩)
        | (go_at_call 10; refine (HW.out).mono ?_; rintro e w' ⟨_, rfl, rfl, hf1⟩))
      go_ret
      exact ⟨_, rfl, rfl, hf0.trans0 hf1⟩
    · have h60' : ¬ (xs.length : Int) > 60 := by omega
      obtain ⟨h0, h1, h2, h3⟩ := few25 hf
      obtain ⟨N, rfl⟩ : ∃ N : Nat, n = (N : Int) := ⟨n.toNat, by omega⟩
      have hN : N ≤ 1024 := by omega
      have hN1 : N ≤ 100 := by omega
      have hl2 : l.length ≤ 1000 := by omega
      have H3 := Lib.hid h3
      have HTT := Lib.hid ht
      clear hl hT hP hf hx hp h3 ht h60 h0 h1 h2
      go_wp2_with (first
        | (go_at_call 11; (try rw [hw0]); refine (HF.out).mono ?_; rintro e w' ⟨rfl, rfl⟩; clear hw0)
        | (go_at_call 12; refine (RefNew_is (c := cA) HL.out hN H3.out).mono ?_; rintro e w1 ⟨_, rfl, R, cR, rfl, hf1, hR1⟩))
      have hf2 : Fr0 w0 (w1.alloc (.cells #[.int .i64 (N : Int), .slice R N cR] 37)) := hf1.trans0 (fr_alloc _ _ _)
      have hR2 : RefG (w1.alloc (.cells #[.int .i64 (N : Int), .slice R N cR] 37)) N R (mxL l) := hR1.fr0 (fr_alloc _ _ _)
      have hc2 := two_held (w0 := w1) (x := .int .i64 (N : Int)) (y := .slice R N cR) (t := 37)
      obtain ⟨w2, hw2⟩ : ∃ w2, w1.alloc (.cells #[.int .i64 (N : Int), .slice R N cR] 37) = w2 := ⟨_, rfl⟩
      rw [hw2] at hf2 hR2 hc2 ⊢
      clear hw2 hf1 hR1
      have hF2 : Fr0 W w2 := hf0.trans0 hf2
      have HKS := Lib.hid (show ∀ w', Fr0 w2 w' → (Fr0 w2 w' ∧ w'.cell? ⟨W.heap.size, 0, none⟩ = some (.int .i64 a) ∧ w'.cell? ⟨W.heap.size, 1, none⟩ = some (.int .i64 b) ∧ w'.cell? ⟨W.heap.size, 2, none⟩ = some (.int .i64 c)) from fun w' f => ⟨f, HB.out w' (hf2.trans0 f)⟩)
      have HK2 := Lib.hid hc2
      have HRD := Lib.hid (fun w' (f : Fr0 w2 w') far (hF : FarOk N (fun v => decide ((v : Int) ∈ xs)) (refE N (mxL l) a b c) (fun u => decide ((u : Int) = t)) far) => refDist_ints (by omega) (RefDist_is (cR := cR) (d := d) (hR2.fr0 f) (HX.out.fr0 (hf2.trans0 f)) a b c t hF (fun u d k e => Nat.le_of_lt (hF.lt e))))
      have HMR := Lib.hid (fun w' (f : Fr0 w2 w') u v => MaskR_is (c := cR) (hR2.fr0 f) u v)
      have KB := Lib.hid (fun w' (f : Fr0 w2 w') => build25_is (c := cA) (HL.out.fr0 (hf2.trans0 f)) (by omega) hN H3.out)
      have KS := Lib.hid (fun w' (f : Fr0 w2 w') => set25_is (c := d) (HT.out.fr (hf2.trans0 f) (fun x => x)) (HX.out.fr0 (hf2.trans0 f)))
      have KT := Lib.hid (fun w' (f : Fr0 w2 w') => HT.out.fr (hf2.trans0 f) (fun x => x))
      have KW := Lib.hid (fun w' (f : Fr0 w2 w') => works25_is (HT.out.fr (hf2.trans0 f) (fun x => x)))
      clear hc2 hR2 HF HW HB
      go_region_held_law (fun w' => Fr0 w2 w' ∧ w'.cell? ⟨W.heap.size, 0, none⟩ = some (.int .i64 a) ∧ w'.cell? ⟨W.heap.size, 1, none⟩ = some (.int .i64 b) ∧ w'.cell? ⟨W.heap.size, 2, none⟩ = some (.int .i64 c))
        ((refine HKS.out _ ?_; first | exact fr_drew _ _ | assumption | exact And.left (by assumption)))
        (first
          | (go_at_call 14; refine (KB.out _ (And.left (by assumption))).mono ?_; rintro e w3 ⟨_, rfl, r, p, pt, J, J', rfl, hf3, hR, hG, hGt, hB1, hB2⟩; have hF3 := Fr.trans0 (And.left (by assumption)) hf3)
          | (go_at_call 15; refine (KS.out _ (And.left (by assumption))).mono ?_; rintro e w4 ⟨_, rfl, g4, a4, rfl, _, _, hf4, hI4⟩; have hF4 := Fr.trans0 (And.left (by assumption)) hf4)
          | (go_at_call 9; refine (ruleL_is a b c).mono ?_; rintro e w5 ⟨_, rfl, rfl, hf5⟩; have hF5 := Fr.trans0 (And.left (by assumption)) hf5)
          | (go_at_call 18; refine (leastM_is (hR.fr0 (hf4.trans0 hf5)) (hG.fr0 (hf4.trans0 hf5)) (hGt.fr0 (hf4.trans0 hf5)) hB1 hB2 (KT.out _ hF5) (hI4.fr0 hf5) hN1 hl2 HTT.out).mono ?_; rintro e w6 ⟨_, rfl, far, fl, ys, A6, c6, rfl, hf6, hFO, hLR, hyl, hIa⟩; have hF6 := Fr.trans0 (And.left (by assumption)) hf6))
      obtain ⟨_, q0, q1, q2⟩ := HKS.out _ hF6
      obtain ⟨g0, g1⟩ := HK2.out _ hF6
      have HIa := Lib.hid hIa
      have HRX := Lib.hid (HRD.out _ hF6 _ hFO)
      have HNL := Lib.hid (show (natI ys).length = ys.length by simp [natI])
      clear hR hG hGt hB1 hB2 hI4 hf3 hf4 hf5 hf6 hF3 hF4 hF5 KB KS KT HRD hIa
      by_cases hneg : numF far t false < 0
      · obtain ⟨rfl, rfl⟩ := leastR_no hLR hneg
        have HNN := Lib.hid hneg
        have HFF := Lib.hid hFO
        clear hLR hneg hFO hyl
        by_cases ht0 : t < 0
        · go_wp2_with (first
            | (go_at_call 16; refine (HRX.out).mono ?_; rintro e w7 ⟨_, rfl, A7, B7, c7, d7, rfl, hf7, hr1, hr2⟩; have hF7 := Fr.trans0 hF6 hf7)
            | (go_at_call 10; refine (KW.out _ hF7).mono ?_; rintro e w10 ⟨_, rfl, rfl, hf10⟩))
          refine bodyPost_ret (results_tmp (t := 10) rfl _ _ _) rfl ?_
          exact ⟨_, rfl, rfl, (hF2.trans0 hF7).trans0 hf10⟩
        · by_cases htn : t < (N : Int)
          · obtain ⟨vn, rfl⟩ : ∃ vn : Nat, t = (vn : Int) := ⟨t.toNat, by omega⟩
            have hge : ¬ (vn : Int) ≥ (N : Int) := by omega
            have hval := farN_at far false (n := N) (v := vn) (by omega)
            rw [← numF_enc] at hval
            have HVN : Hid ((farN far false N).getD vn 0 < 0) := Lib.hid (by rw [hval]; exact HNN.out)
            clear hval
            have hvl : vn < (farN far false N).length := by rw [farN_len]; omega
            have HVL := Lib.hid hvl
            clear hvl
            go_wp2_with (go_at_call 16; refine (HRX.out).mono ?_; rintro e w7 ⟨_, rfl, A7, B7, c7, d7, rfl, hf7, hr1, hr2⟩; have hF7 := Fr.trans0 hF6 hf7; obtain ⟨b7, o7, rfl, hc7⟩ := hr1.at_ HVL.out; have hy := HVN.out; generalize (farN far false N).getD vn 0 = y at hc7 hy)
            go_wp2_with (go_at_call 10; refine (KW.out _ hF7).mono ?_; rintro e w10 ⟨_, rfl, rfl, hf10⟩)
            refine bodyPost_ret (results_tmp (t := 10) rfl _ _ _) rfl ?_
            exact ⟨_, rfl, rfl, (hF2.trans0 hF7).trans0 hf10⟩
          · have hge : t ≥ (N : Int) := by omega
            go_wp2_with (first
              | (go_at_call 16; refine (HRX.out).mono ?_; rintro e w7 ⟨_, rfl, A7, B7, c7, d7, rfl, hf7, hr1, hr2⟩; have hF7 := Fr.trans0 hF6 hf7)
              | (go_at_call 10; refine (KW.out _ hF7).mono ?_; rintro e w10 ⟨_, rfl, rfl, hf10⟩))
            refine bodyPost_ret (results_tmp (t := 10) rfl _ _ _) rfl ?_
            exact ⟨_, rfl, rfl, (hF2.trans0 hF7).trans0 hf10⟩
      · obtain ⟨vn, k0, rfl, hvn, hk⟩ := numF_yes hFO hneg
        obtain ⟨rfl, hyk, hpos, hy0, hmem, hfit⟩ := fits_yes25 hFO hLR hk
        have hval := farN_at far false (n := N) hvn
        rw [hk] at hval
        have hvl : vn < (farN far false N).length := by rw [farN_len]; omega
        have HVN : Hid ((farN far false N).getD vn 0 = (k0 : Int)) := Lib.hid hval
        have HVL := Lib.hid hvl
        have HFIT := Lib.hid hfit
        have HMEM := Lib.hid hmem
        have HY0 := Lib.hid hy0
        have hk9 : k0 ≤ 2 * N + 1 := by omega
        have hvN : (vn : Int) < (N : Int) := by omega
        have hge : ¬ (vn : Int) ≥ (N : Int) := by omega
        have ht0 : ¬ (vn : Int) < 0 := by omega
        subst hyk
        clear hval hvl hfit hmem hy0 hLR hFO hk hneg hyl hvn
        go_wp2_with (go_at_call 16; refine (HRX.out).mono ?_; rintro e w7 ⟨_, rfl, A7, B7, c7, d7, rfl, hf7, hr1, hr2⟩; have hF7 := Fr.trans0 hF6 hf7; obtain ⟨b7, o7, rfl, hc7⟩ := hr1.at_ HVL.out; rw [HVN.out] at hc7; have hk0n : ¬ (ys.length : Int) < 0 := by omega)
        obtain ⟨g0, g1⟩ := HK2.out _ hF7
        obtain ⟨_, q0, q1, q2⟩ := HKS.out _ hF7
        obtain ⟨i0, hi, hz0, hz1, hz2⟩ := info_parts info_int
        have HIY := Lib.hid (HIa.out.fr0 hf7)
        have HC7 := Lib.hid hc7
        have HQ := Lib.hid (And.intro q0 (And.intro q1 q2))
        have HG := Lib.hid (And.intro g0 g1)
        have HHAS := Lib.hid (fun w' (f : Fr0 w7 w') x => Has5_is (c := d) (HX.out.fr0 ((hf2.trans0 hF7).trans0 f)) x)
        have HMK7 := Lib.hid (fun w' (f : Fr0 w7 w') u v => HMR.out w' (hF7.trans0 f) u v)
        have HKW7 := Lib.hid (fun w' (f : Fr0 w7 w') => KW.out w' (hF7.trans0 f))
        clear hr1 hr2 hc7 q0 q1 q2 g0 g1 HRX HIa HMR KW HKS HK2
        have hb1 : decide (N ≤ vn) = false := decide_eq_false (by omega)
        have hb2 : decide ((vn : Int) < 0) = false := decide_eq_false (by omega)
        have hb3 : decide ((ys.length : Int) < 0) = false := decide_eq_false (by omega)
        simp only [hb1, hb2, hb3, Bool.or_self]
        go_loopw [17, 18] (fun v17 v18 wr => ∃ k : Nat, k ≤ ys.length ∧ v18 = .int .i64 k ∧ Fr0 w7 wr ∧ Hid (wr.ownsRow w7.heap.size 3 1 v17 k (intsI ((List.range k).map (mkM25 (maskR N (mxL l)) (natI ys)))))) (fun _ v18 _ => ys.length - (intOf v18).toNat)
        case atStart => exact ⟨0, by omega, rfl, Fr.refl _ _, Lib.hid (own_nil _ _ _ _)⟩
        case round =>
          obtain ⟨k, hk, rfl, hf, HO⟩ := hrel
          by_cases hlt : k < ys.length
          · have hlt' : (k : Int) < (ys.length : Int) := by omega
            have hml : (k + 1) % ys.length < ys.length := Nat.mod_lt _ (by omega)
            have hmod := tmod_nat25 (k + 1) ys.length
            rw [show ((k + 1 : Nat) : Int) = (k : Int) + 1 by omega] at hmod
            have hn0 : ¬ (ys.length : Int) = 0 := by omega
            have hxn : ¬ ys = [] := fun h => by rw [h] at hlt; cases hlt
            have hwr : IntKind.i64.wrap ((k : Int) + 1) = (k : Int) + 1 := by rw [IntKind.wrap_i64]; omega
            have HMK : Hid (mkM25 (maskR N (mxL l)) (natI ys) k = maskR N (mxL l) ((natI ys).getD k 0) ((natI ys).getD ((k + 1) % ys.length) 0)) := Lib.hid (by unfold mkM25; rw [HNL.out])
            obtain ⟨bb, oo, rfl, hc⟩ := HIY.out.at_ (k := k) (by rw [HNL.out]; exact hlt)
            obtain ⟨_, _, e2, hc2⟩ := HIY.out.at_ (k := (k + 1) % ys.length) (by rw [HNL.out]; exact hml)
            cases e2
            have hin : (natI ys).getD k 0 ∈ xs := HMEM.out _ (by
              have hk2 : k < (natI ys).length := by rw [HNL.out]; exact hlt
              rw [List.getD_eq_getElem?_getD, List.getElem?_eq_getElem hk2]
              exact List.getElem_mem hk2)
            have HSN := Lib.hid (range_snoc25 (mkM25 (maskR N (mxL l)) (natI ys)) k)
            generalize (natI ys).getD ((k + 1) % ys.length) 0 = t2 at hc2 HMK
            generalize (natI ys).getD k 0 = u at hc HMK hin
            have HIN := Lib.hid (decide_eq_true hin)
            clear hin
            generalize (k + 1) % ys.length = q at hc2 hml hmod
            have hml' : (q : Int) < (ys.length : Int) := by omega
            have HC := Lib.hid (fun (w : World) (f : Fr0 w7 w) => HMK7.out w f u t2)
            rw [← HMK.out] at HC
            clear HMK
            generalize mkM25 (maskR N (mxL l)) (natI ys) k = y at HC HSN
            have KS := Lib.hid (show ∀ w', Fr0 w7 w' → (Fr0 w7 w' ∧ w'.cell? ⟨w1.heap.size, 0, none⟩ = some (.int .i64 (N : Int)) ∧ w'.cell? ⟨w1.heap.size, 1, none⟩ = some (.slice R N cR) ∧ w'.cell? ⟨bb, oo + k, none⟩ = some (.int .i64 u) ∧ w'.cell? ⟨bb, oo + q, none⟩ = some (.int .i64 t2)) from fun w' f => ⟨f, f.cell HG.out.1 (fun x => x), f.cell HG.out.2 (fun x => x), f.cell hc (fun x => x), f.cell hc2 (fun x => x)⟩)
            have hcr := hf.cell hc (fun x => x)
            have hsz := hf.size
            have hk100 : k ≤ 100000 := by omega
            clear hc hc2
            go_wp2_with (go_at_call 20; refine (HHAS.out _ hf _).mono ?_; rintro e w' ⟨rfl, rfl⟩; rw [HIN.out])
            have hfd : Fr0 w7 wr.drew := hf.trans0 (fr_drew _ _)
            go_region_held_law (fun w' => Fr0 w7 w' ∧ w'.cell? ⟨w1.heap.size, 0, none⟩ = some (.int .i64 (N : Int)) ∧ w'.cell? ⟨w1.heap.size, 1, none⟩ = some (.slice R N cR) ∧ w'.cell? ⟨bb, oo + k, none⟩ = some (.int .i64 u) ∧ w'.cell? ⟨bb, oo + q, none⟩ = some (.int .i64 t2))
              ((refine KS.out _ ?_; first | assumption | exact And.left (by assumption)))
              (first
                | (go_at_call 21; (with_reducible refine (HC.out _ (And.left (by assumption))).mono ?_); rintro e w8 ⟨_, rfl, rfl, hf8⟩; have hr8 : Fr0 wr w8 := (fr_drew _ _).trans0 hf8; have hf9 : Fr0 w7 w8 := hf.trans0 hr8; have hf9a : Fr0 w7 (w8.alloc (.cells #[.int .i64 y] 3)) := hf9.trans0 (fr_alloc _ _ _))
                | (refine step_append_at25 108 rfl (B := w7.heap.size) (xs := (List.range k).map (mkM25 (maskR N (mxL l)) (natI ys))) (ys := [y]) rfl (.tmp 92) (.tmp 107) rfl rfl rfl (fun e => by cases e) ?_ ?_ ?_ ?_ ?_; (simp; omega); exact hf9a.size; (rw [List.length_map, List.length_range]; exact own_fr0 HO.out (hr8.trans0 (fr_alloc _ _ _))); exact ints_lit (World.alloc_heap_new _ _) (by simp); intro v' w9 hown9 hf10; have hf11 : Fr0 w7 w9 := hf9a.trans hf10 (fun j hj e => own_old HO.out hj e)))
            rw [← HSN.out, List.length_map, List.length_range] at hown9
            have HO9 := Lib.hid hown9
            clear hown9
            go_wp2_with fail
            go_roundw
            case rel =>
              exact ⟨k + 1, by omega, by go_num, hf11, HO9⟩
            case measure => simp [intOf]; omega
          · have hke : k = ys.length := by omega
            subst hke
            have hge2 : ¬ (ys.length : Int) < (ys.length : Int) := by omega
            have hpos' : (0 : Int) < (ys.length : Int) := by omega
            have hn0 : ¬ (ys.length : Int) = 0 := by omega
            obtain ⟨A8, c8, rfl⟩ := own_form HO.out
            have hmsl : ((List.range ys.length).map (mkM25 (maskR N (mxL l)) (natI ys))).length = ys.length := by simp
            have hown := HO.out
            have hIM : IntsAt wr A8 ((List.range ys.length).map (mkM25 (maskR N (mxL l)) (natI ys))) := own_intsI (c := c8) (by rw [hmsl]; exact hown) (by rw [hmsl]; omega)
            have HFI := Lib.hid (fun w' (f : Fr0 wr w') => Fits25_is (a := a) (b := b) (c := c) (cp := c8) (hIM.fr0 f) (by rw [hmsl]; omega))
            rw [HFIT.out, hmsl] at HFI
            obtain ⟨bb, oo, rfl, hc⟩ := HIY.out.at_ (k := 0) (by rw [HNL.out]; omega)
            rw [HY0.out, Nat.add_zero] at hc
            have hcr := hf.cell hc (fun x => x)
            have hc7 := hf.cell HC7.out (fun x => x)
            have q0 := hf.cell HQ.out.1 (fun x => x)
            have q1 := hf.cell HQ.out.2.1 (fun x => x)
            have q2 := hf.cell HQ.out.2.2 (fun x => x)
            clear hmsl hown hIM hc
            go_wp2_with (first
              | (go_at_call 22; refine (HFI.out _ (Fr.refl _ _)).mono ?_; rintro e w8 ⟨_, rfl, rfl, hf8⟩; have hf9 : Fr0 w7 w8 := hf.trans0 hf8)
              | (go_at_call 10; refine (HKW7.out _ hf9).mono ?_; rintro e w10 ⟨_, rfl, rfl, hf10⟩))
            refine bodyPost_ret (results_tmp (t := 10) rfl _ _ _) rfl ?_
            exact ⟨_, rfl, rfl, ((hF2.trans0 hF7).trans0 hf9).trans0 hf10⟩
end Go.Proofs.YtdcjfpjpboafnaaDoor
