/- The first of the shortest closed walks is as the document says: the law's walk. -/
import Derived.Test.YtdcjfpjpboafnaaDoorWalkFitsP
namespace Go.Proofs.YtdcjfpjpboafnaaDoor
set_option linter.all false
open Go.RowKit
set_option maxRecDepth 100000

set_option maxHeartbeats 8000000 in
theorem WalkLeast_is {W : World} {n t a b c : Int} {A B : Option Addr} {cA d : Nat} {l : List ArcI} {xs : List Int} (hT : Tab W) (hl : ArcsAt W A l) (hP : Plain A l.length cA) (hx : IntsAt W B xs) (hp : Plain B xs.length d) (ht : (Lit.int .i64 t).wf = true) :
    Calls Tryd.prog 5 #[.int .i64 n, .slice A l.length cA, .slice B xs.length d, .agg #[.int .i64 a, .int .i64 b, .int .i64 c], .int .i64 t] W (Rets (SamePost true W)) := by
  have hf0 : Fr0 W (W.alloc (.cells #[.int .i64 a, .int .i64 b, .int .i64 c] 26)) := fr_alloc _ _ _
  have hB0 := three_held (w0 := W) (x := .int .i64 a) (y := .int .i64 b) (z := .int .i64 c) (t := 26)
  obtain ⟨w0, hw0⟩ : ∃ w0, W.alloc (.cells #[.int .i64 a, .int .i64 b, .int .i64 c] 26) = w0 := ⟨_, rfl⟩
  rw [hw0] at hf0 hB0
  have HF := Lib.hid (Few_is (c := cA) (hl.fr0 hf0) n 6 60)
  have HT := Lib.hid (hT.fr hf0 (fun x => x))
  have HL := Lib.hid (hl.fr0 hf0)
  have HX := Lib.hid (hx.fr0 hf0)
  have HW := Lib.hid (works25_is HT.out)
  have HB := Lib.hid hB0
  clear hB0
  go_enter Tryd.func5, Tryd.ntmps5
  cases hf : fewI n l 6 60 with
  | false =>
    rw [hf] at HF
    clear hl hT hP hf hx hp HB
    go_wp2_with (first
      | (go_at_call 11; (try rw [hw0]); refine (HF.out).mono ?_; rintro e w' ⟨rfl, rfl⟩)
      | (go_at_call 10; refine (HW.out).mono ?_; rintro e w' ⟨_, rfl, rfl, hf1⟩))
    go_ret
    exact ⟨_, rfl, rfl, hf0.trans0 hf1⟩
  | true =>
    rw [hf] at HF
    by_cases h60 : xs.length > 60
    · have h60' : (xs.length : Int) > 60 := by omega
      clear hl hT hP hf hx hp HB
      go_wp2_with (first
        | (go_at_call 11; (try rw [hw0]); refine (HF.out).mono ?_; rintro e w' ⟨rfl, rfl⟩)
        | (go_at_call 10; refine (HW.out).mono ?_; rintro e w' ⟨_, rfl, rfl, hf1⟩))
      go_ret
      exact ⟨_, rfl, rfl, hf0.trans0 hf1⟩
    · have h60' : ¬ (xs.length : Int) > 60 := by omega
      obtain ⟨h0, h1, h2, h3⟩ := few25 hf
      obtain ⟨N, rfl⟩ : ∃ N : Nat, n = (N : Int) := ⟨n.toNat, by omega⟩
      have hN : N ≤ 1024 := by omega
      have hN1 : N ≤ 100 := by omega
      have hl2 : l.length ≤ 1000 := by omega
      have H3 := Lib.hid h3
      have HTT := Lib.hid ht
      clear hl hT hP hf hx hp h3 ht h60 h0 h1 h2
      go_wp2_with (first
        | (go_at_call 11; (try rw [hw0]); refine (HF.out).mono ?_; rintro e w' ⟨rfl, rfl⟩; clear hw0)
        | (go_at_call 12; refine (RefNew_is (c := cA) HL.out hN H3.out).mono ?_; rintro e w1 ⟨_, rfl, R, cR, rfl, hf1, hR1⟩))
      have hf2 : Fr0 w0 (w1.alloc (.cells #[.int .i64 (N : Int), .slice R N cR] 37)) := hf1.trans0 (fr_alloc _ _ _)
      have hR2 : RefG (w1.alloc (.cells #[.int .i64 (N : Int), .slice R N cR] 37)) N R (mxL l) := hR1.fr0 (fr_alloc _ _ _)
      have hc2 := two_held (w0 := w1) (x := .int .i64 (N : Int)) (y := .slice R N cR) (t := 37)
      obtain ⟨w2, hw2⟩ : ∃ w2, w1.alloc (.cells #[.int .i64 (N : Int), .slice R N cR] 37) = w2 := ⟨_, rfl⟩
      rw [hw2] at hf2 hR2 hc2 ⊢
      clear hw2 hf1 hR1
      have hF2 : Fr0 W w2 := hf0.trans0 hf2
      have HKS := Lib.hid (show ∀ w', Fr0 w2 w' → (Fr0 w2 w' ∧ w'.cell? ⟨W.heap.size, 0, none⟩ = some (.int .i64 a) ∧ w'.cell? ⟨W.heap.size, 1, none⟩ = some (.int .i64 b) ∧ w'.cell? ⟨W.heap.size, 2, none⟩ = some (.int .i64 c)) from fun w' f => ⟨f, HB.out w' (hf2.trans0 f)⟩)
      have HK2 := Lib.hid hc2
      have HRL := Lib.hid (fun w' (f : Fr0 w2 w') far (hF : FarOk N (fun v => decide ((v : Int) ∈ xs)) (refE N (mxL l) a b c) (fun u => decide ((u : Int) = t)) far) g ys (hL : LeastR N l xs a b c t far g ys) => refLeastL_is (cR := cR) (d := d) (hR2.fr0 f) (HX.out.fr0 (hf2.trans0 f)) hN1 hF hL)
      have KB := Lib.hid (fun w' (f : Fr0 w2 w') => build25_is (c := cA) (HL.out.fr0 (hf2.trans0 f)) (by omega) hN H3.out)
      have KS := Lib.hid (fun w' (f : Fr0 w2 w') => set25_is (c := d) (HT.out.fr (hf2.trans0 f) (fun x => x)) (HX.out.fr0 (hf2.trans0 f)))
      have KT := Lib.hid (fun w' (f : Fr0 w2 w') => HT.out.fr (hf2.trans0 f) (fun x => x))
      have KW := Lib.hid (fun w' (f : Fr0 w2 w') => works25_is (HT.out.fr (hf2.trans0 f) (fun x => x)))
      clear hc2 hR2 HF HW HB
      go_region_held_law (fun w' => Fr0 w2 w' ∧ w'.cell? ⟨W.heap.size, 0, none⟩ = some (.int .i64 a) ∧ w'.cell? ⟨W.heap.size, 1, none⟩ = some (.int .i64 b) ∧ w'.cell? ⟨W.heap.size, 2, none⟩ = some (.int .i64 c))
        ((refine HKS.out _ ?_; first | exact fr_drew _ _ | assumption | exact And.left (by assumption)))
        (first
          | (go_at_call 14; refine (KB.out _ (And.left (by assumption))).mono ?_; rintro e w3 ⟨_, rfl, r, p, pt, J, J', rfl, hf3, hR, hG, hGt, hB1, hB2⟩; have hF3 := Fr.trans0 (And.left (by assumption)) hf3)
          | (go_at_call 15; refine (KS.out _ (And.left (by assumption))).mono ?_; rintro e w4 ⟨_, rfl, g4, a4, rfl, _, _, hf4, hI4⟩; have hF4 := Fr.trans0 (And.left (by assumption)) hf4)
          | (go_at_call 9; refine (ruleL_is a b c).mono ?_; rintro e w5 ⟨_, rfl, rfl, hf5⟩; have hF5 := Fr.trans0 (And.left (by assumption)) hf5)
          | (go_at_call 18; refine (leastM_is (hR.fr0 (hf4.trans0 hf5)) (hG.fr0 (hf4.trans0 hf5)) (hGt.fr0 (hf4.trans0 hf5)) hB1 hB2 (KT.out _ hF5) (hI4.fr0 hf5) hN1 hl2 HTT.out).mono ?_; rintro e w6 ⟨_, rfl, far, fl, ys, A6, c6, rfl, hf6, hFO, hLR, hyl, hIa⟩; have hF6 := Fr.trans0 (And.left (by assumption)) hf6))
      obtain ⟨_, q0, q1, q2⟩ := HKS.out _ hF6
      obtain ⟨g0, g1⟩ := HK2.out _ hF6
      have HIa := Lib.hid hIa
      have HRX := Lib.hid (HRL.out _ hF6 _ hFO _ _ hLR)
      have HNL := Lib.hid (show (natI ys).length = ys.length by simp [natI])
      clear hIa hFO hLR hR hG hGt hB1 hB2 hI4 hf3 hf4 hf5 hf6 hF3 hF4 hF5 KB KS KT HRL hyl
      cases fl
      all_goals
        go_wp2_with (first
          | (go_at_call 19; refine (HRX.out).mono ?_; rintro e w7 ⟨_, rfl, A7, c7, rfl, hf7, hr1⟩; have hF7 := Fr.trans0 hF6 hf7)
          | (go_at_call 17; refine (SameL_is (L := natI ys) (HIa.out.fr0 hf7) hr1 HNL.out).mono ?_; rintro e w8 ⟨_, rfl, rfl, hf8⟩; have hF9 := hF7.trans0 hf8)
          | (go_at_call 10; refine (KW.out _ hF9).mono ?_; rintro e w10 ⟨_, rfl, rfl, hf10⟩))
        go_ret
        exact ⟨_, rfl, rfl, (hF2.trans0 hF9).trans0 hf10⟩
end Go.Proofs.YtdcjfpjpboafnaaDoor
