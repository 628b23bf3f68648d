/- What any vertex leads to, and which lead to themselves, is as the document says: the law's walk. -/
import Derived.Test.YtdihpobegoihkaaDoorAgree
import Derived.Test.YtdihpobegoihkaaDoorLawKit
namespace Go.Proofs.YtdihpobegoihkaaDoor
set_option linter.all false
open Go.RowKit
set_option maxRecDepth 100000

theorem few_parts {n : Int} {l : List ArcI} {most arcs : Int} (h : fewI n l most arcs = true) : 0 ≤ n ∧ n ≤ most ∧ (l.length : Int) ≤ arcs ∧ l.any (badI n) = false := by
  simp only [fewI, Bool.and_eq_true, decide_eq_true_eq, Bool.not_eq_true'] at h
  exact ⟨h.1.1.1, h.1.1.2, h.1.2, h.2⟩
set_option maxHeartbeats 8000000 in
theorem ClosureRows_is {W : World} {n m a b : Int} {A : Option Addr} {c : Nat} {l : List ArcI} (hT : Tab W) (hl : ArcsAt W A l) (hP : Plain A l.length c) :
    Calls Tryd.prog 3 #[.int .i64 n, .slice A l.length c, .int .i64 m, .int .i64 a, .int .i64 b] W (Rets (SamePost true W)) := by
  have HF := Lib.hid (Few_is (c := c) hl n 30 200)
  cases hf : fewI n l 30 200 with
  | false =>
    rw [hf] at HF
    have HW := Lib.hid (works36_is hT)
    clear hl hT hP hf
    go_enter Tryd.func3, Tryd.ntmps3
    go_wp2_with (first
      | (go_at_call 13; refine (HF.out).mono ?_; rintro e w' ⟨rfl, rfl⟩)
      | (go_at_call 14; refine (HW.out).mono ?_; rintro e w' ⟨_, rfl, rfl, hf1⟩))
    go_ret
    exact ⟨_, rfl, rfl, hf1⟩
  | true =>
    rw [hf] at HF
    obtain ⟨h0, h1, h2, h3⟩ := few_parts hf
    obtain ⟨N, rfl⟩ : ∃ N : Nat, n = (N : Int) := ⟨n.toNat, by omega⟩
    have hN : N ≤ 1024 := by omega
    have HT := Lib.hid hT
    have HL := Lib.hid hl
    have H3 := Lib.hid h3
    have HR := Lib.hid (RefNew_is (c := c) hl hN h3)
    clear hl hT hP hf h3
    go_enter Tryd.func3, Tryd.ntmps3
    go_wp2_with (first
      | (go_at_call 13; refine (HF.out).mono ?_; rintro e w' ⟨rfl, rfl⟩)
      | (go_at_call 15; refine (HR.out).mono ?_; rintro e w1 ⟨_, rfl, R, cR, rfl, hf1, hR1⟩)
      | (go_at_call 17; refine (build_is (c := c) (HL.out.fr0 (hf1.trans0 (fr_alloc _ w1 (.cells #[.int .i64 (N : Int), .slice R N cR] 27)))) (by omega) hN H3.out).mono ?_; rintro e w2 ⟨v2, rfl, hb2⟩; obtain ⟨g, J, rfl, hf2, hB, hG⟩ := built_of hN H3.out hb2)
      | (go_at_call 16; refine (CloNew_is hG m (HT.out.fr ((hf1.trans0 (fr_alloc _ w1 (.cells #[.int .i64 (N : Int), .slice R N cR] 27))).trans0 hf2) (fun x => x))).mono ?_; rintro e w3 ⟨v3, rfl, cg, L, rfl, hf3, hC⟩)
      | (go_at_call 18; refine (RowC_is hC a).mono ?_; rintro e w4 ⟨v4, rfl, g4, a4, rfl, _, _, hf4, hI4⟩))
    have hfX : Fr0 w1 (w1.alloc (.cells #[.int .i64 (N : Int), .slice R N cR] 27)) := fr_alloc _ _ _
    have hF4 : Fr0 W w4 := (((hf1.trans0 hfX).trans0 hf2).trans0 hf3).trans0 hf4
    have hhp : w4.heap[w1.heap.size]? = some (.cells #[.int .i64 (N : Int), .slice R N cR] 27 (0, 0)) := Fr0.heap' ((hf2.trans0 hf3).trans0 hf4) (World.alloc_heap_new _ _)
    have b0 : w4.cell? ⟨w1.heap.size, 0, none⟩ = some (.int .i64 N) := by simp [World.cell?, hhp]
    have b1 : w4.cell? ⟨w1.heap.size, 1, none⟩ = some (.slice R N cR) := by simp [World.cell?, hhp]
    have hR4 : RefG w4 N R (mxL l) := (((hR1.fr0 hfX).fr0 hf2).fr0 hf3).fr0 hf4
    have hC4 := hC.fr0 hf4
    have er := hB.row m a
    have el := hB.leads m a b
    have ec := hB.cyclic m
    have HKS := Lib.hid (show ∀ w', Fr0 w4 w' → (Fr0 w4 w' ∧ w'.cell? ⟨w1.heap.size, 0, none⟩ = some (.int .i64 N) ∧ w'.cell? ⟨w1.heap.size, 1, none⟩ = some (.slice R N cR)) from fun w' f => ⟨f, f.cell b0 (fun x => x), f.cell b1 (fun x => x)⟩)
    have HA := Lib.hid (fun w' (f : Fr0 w4 w') => List_is (hI4.fr0 f))
    have HB := Lib.hid (fun w' (f : Fr0 w4 w') => Row36_is (c := cR) (hR4.fr0 f) a m)
    have HC := Lib.hid (fun w' (f : Fr0 w4 w') => Room_c g4 N w' (f.cell hI4.c0 (fun x => x)))
    have HD := Lib.hid (fun w' (f : Fr0 w4 w') => Leads_is (hC4.fr0 f) a b)
    have HE := Lib.hid (fun w' (f : Fr0 w4 w') => Leads36_is (c := cR) (hR4.fr0 f) a b m)
    have HG := Lib.hid (fun w' (f : Fr0 w4 w') => Cyclic_is (hC4.fr0 f))
    have HH := Lib.hid (fun w' (f : Fr0 w4 w') => Cyclic36_is (c := cR) (hR4.fr0 f) m)
    have HW := Lib.hid (fun w' (f : Fr0 w4 w') => works36_is (HT.out.fr (hF4.trans0 f) (fun x => x)))
    have q1 := elems_len N (rowI N (warsh (fun i => rowM N J m i) N) a)
    have q2 := elems_len N (fun v => warsh (fun i => rowM N J m i) N v v)
    rw [er] at HB
    rw [el] at HE
    rw [ec] at HH
    generalize elems N (rowI N (warsh (fun i => rowM N J m i) N) a) = lr at HA HB q1
    generalize leadsI N (warsh (fun i => rowM N J m i) N) a b = x at HD HE
    generalize elems N (fun v => warsh (fun i => rowM N J m i) N v v) = lc at HG HH q2
    clear hhp hR4 hC4 er el ec hR1 hC hI4 hG hB HF HR b0 b1
    go_region_held_law (fun w' => Fr0 w4 w' ∧ w'.cell? ⟨w1.heap.size, 0, none⟩ = some (.int .i64 N) ∧ w'.cell? ⟨w1.heap.size, 1, none⟩ = some (.slice R N cR))
      ((refine HKS.out _ ?_; first | exact fr_drew _ _ | assumption | exact And.left (by assumption)))
      (first
        | (go_at_call 20; refine (HA.out _ (And.left (by assumption))).mono ?_; rintro e w5 ⟨v5, rfl, hf5, ho5⟩; obtain ⟨A5, c5, rfl⟩ := own_form ho5; have hF5 := Fr.trans0 (And.left (by assumption)) hf5)
        | (go_at_call 21; refine (HB.out _ (And.left (by assumption))).mono ?_; rintro e w6 ⟨v6, rfl, hf6, ho6⟩; obtain ⟨A6, c6, rfl⟩ := own_form ho6; have hF6 := Fr.trans0 (And.left (by assumption)) hf6)
        | (go_at_call 19; refine (SameN_is (own_fr0 ho9 hf10) ho10 (by omega)).mono ?_; rintro e w11 ⟨_, rfl, rfl, hf11⟩; have hF11 := Fr.trans0 (And.left (by assumption)) hf11)
        | (go_at_call 19; refine (SameN_is (own_fr0 ho5 hf6) ho6 (by omega)).mono ?_; rintro e w7 ⟨_, rfl, rfl, hf7⟩; have hF7 := Fr.trans0 (And.left (by assumption)) hf7)
        | (go_at_call 22; refine (HC.out _ (And.left (by assumption))).mono ?_; rintro e w' ⟨rfl, rfl⟩)
        | (go_at_call 23; refine (HD.out _ (And.left (by assumption))).mono ?_; rintro e w' ⟨rfl, rfl⟩)
        | (go_at_call 24; refine (HE.out _ (And.left (by assumption))).mono ?_; rintro e w8 ⟨_, rfl, rfl, hf8⟩; have hF8 := Fr.trans0 (And.left (by assumption)) hf8)
        | (go_at_call 25; refine (HG.out _ (And.left (by assumption))).mono ?_; rintro e w9 ⟨v9, rfl, hf9, ho9⟩; obtain ⟨A9, c9, rfl⟩ := own_form ho9; have hF9 := Fr.trans0 (And.left (by assumption)) hf9)
        | (go_at_call 26; refine (HH.out _ (And.left (by assumption))).mono ?_; rintro e w10 ⟨v10, rfl, hf10, ho10⟩; obtain ⟨A10, c10, rfl⟩ := own_form ho10; have hF10 := Fr.trans0 (And.left (by assumption)) hf10)
        | (go_at_call 14; refine (HW.out _ (And.left (by assumption))).mono ?_; rintro e w12 ⟨_, rfl, rfl, hf12⟩; have hF12 := Fr.trans0 (And.left (by assumption)) hf12))
    go_wp2_with fail
    go_ret
    exact ⟨_, rfl, rfl, hF4.trans0 hF12⟩
end Go.Proofs.YtdihpobegoihkaaDoor
