/- What is led to is as the document says: the law's walk. -/
import Derived.Test.YtdihpobegoihkaaDoorReachBoth
import Derived.Test.YtdihpobegoihkaaDoorTurned
namespace Go.Proofs.YtdihpobegoihkaaDoor
set_option linter.all false
open Go.RowKit
set_option maxRecDepth 100000

theorem from_agree {n : Nat} {J : List ArcI} {m : Int} {Mx : Nat → Nat → Int} {ss ws : List Int} (hn : n ≤ 100) (hE : ∀ u w : Nat, outR n Mx (u : Int) m w = rowM n J m u w) :
    elems n (fromR n Mx ss ws m) = elems n (fromB n J m (putP 100 (fun _ => false) ss) (putP 100 (fun _ => false) ws)) := by
  have key : ∀ k w, w < n → iterP n (arcR n Mx ws m) (startR ss ws) k w = iterP n (arcB n J m (putP 100 (fun _ => false) ws)) (startB n (putP 100 (fun _ => false) ss) (putP 100 (fun _ => false) ws)) k w := by
    intro k
    induction k with
    | zero =>
      intro w hw
      have h1 : w < 100 := by omega
      simp only [iterP, startR, startB, putP, Bool.false_or, h1, hw, decide_true, Bool.true_and, Bool.and_true]
    | succ k ih =>
      intro w hw
      have h1 : w < 100 := by omega
      simp only [iterP, stepP]
      rw [ih w hw, Bool.eq_iff_iff, Bool.or_eq_true, Bool.or_eq_true, List.any_eq_true, List.any_eq_true]
      have e : ∀ u, u ∈ List.range n → (iterP n (arcR n Mx ws m) (startR ss ws) k u && arcR n Mx ws m u w) = (iterP n (arcB n J m (putP 100 (fun _ => false) ws)) (startB n (putP 100 (fun _ => false) ss) (putP 100 (fun _ => false) ws)) k u && arcB n J m (putP 100 (fun _ => false) ws) u w) := fun u hu => by
        rw [ih u (List.mem_range.1 hu)]
        simp only [arcR, arcB, hE, putP, Bool.false_or, h1, decide_true, Bool.true_and]
      constructor
      · rintro (h | ⟨u, hu, h⟩)
        · exact .inl h
        · exact .inr ⟨u, hu, (e u hu) ▸ h⟩
      · rintro (h | ⟨u, hu, h⟩)
        · exact .inl h
        · exact .inr ⟨u, hu, (e u hu).symm ▸ h⟩
  exact elems_congr (fun w hw => by simp only [fromR, hw, decide_true, Bool.true_and]; exact key _ w hw)
theorem outR_swap (n : Nat) (Mx : Nat → Nat → Int) (m : Int) (u w : Nat) : outR n (fun a b => Mx b a) (u : Int) m w = outR n Mx (w : Int) m u := by
  show hit m (maskR n (fun a b => Mx b a) u w) = hit m (maskR n Mx w u)
  unfold maskR
  by_cases h : (u < n ∧ w < n)
  · obtain ⟨h1, h2⟩ := h
    simp [h1, h2]
  · have h1 : ¬ (0 ≤ (u : Int) ∧ (u : Int) < n ∧ 0 ≤ (w : Int) ∧ (w : Int) < n) := by omega
    have h2 : ¬ (0 ≤ (w : Int) ∧ (w : Int) < n ∧ 0 ≤ (u : Int) ∧ (u : Int) < n) := by omega
    rw [if_neg h1, if_neg h2]
set_option maxHeartbeats 8000000 in
theorem ReachSets_is {W : World} {n m : Int} {A S B : Option Addr} {c d d2 : Nat} {l : List ArcI} {ss xs : List Int} (hT : Tab W) (hl : ArcsAt W A l) (hP : Plain A l.length c) (hs : IntsAt W S ss) (hsp : Plain S ss.length d2) (hx : IntsAt W B xs) (hp : Plain B xs.length d) :
    Calls Tryd.prog 7 #[.int .i64 n, .slice A l.length c, .slice S ss.length d2, .slice B xs.length d, .int .i64 m] W (Rets (SamePost true W)) := by
  have HF := Lib.hid (Few_is (c := c) hl n 30 200)
  have hWK := works21_is hT
  cases hf : fewI n l 30 200 with
  | false =>
    rw [hf] at HF
    have HW := Lib.hid hWK
    clear hl hT hP hf hx hp hWK hs hsp
    go_enter Tryd.func7, Tryd.ntmps7
    go_wp2_with (first
      | (go_at_call 13; refine (HF.out).mono ?_; rintro e w' ⟨rfl, rfl⟩)
      | (go_at_call 30; refine (HW.out).mono ?_; rintro e w' ⟨_, rfl, rfl, hf1⟩))
    go_ret
    exact ⟨_, rfl, rfl, hf1⟩
  | true =>
    rw [hf] at HF
    by_cases h61 : ss.length > 60
    · have h61' : (ss.length : Int) > 60 := by omega
      have HW := Lib.hid hWK
      clear hl hT hP hf hx hp hWK hs hsp
      go_enter Tryd.func7, Tryd.ntmps7
      go_wp2_with (first
        | (go_at_call 13; refine (HF.out).mono ?_; rintro e w' ⟨rfl, rfl⟩)
        | (go_at_call 30; refine (HW.out).mono ?_; rintro e w' ⟨_, rfl, rfl, hf1⟩))
      go_ret
      exact ⟨_, rfl, rfl, hf1⟩
    · have h61' : ¬ (ss.length : Int) > 60 := by omega
      by_cases h60 : xs.length > 60
      · have h60' : (xs.length : Int) > 60 := by omega
        have HW := Lib.hid hWK
        clear hl hT hP hf hx hp hWK hs hsp
        go_enter Tryd.func7, Tryd.ntmps7
        go_wp2_with (first
          | (go_at_call 13; refine (HF.out).mono ?_; rintro e w' ⟨rfl, rfl⟩)
          | (go_at_call 30; refine (HW.out).mono ?_; rintro e w' ⟨_, rfl, rfl, hf1⟩))
        go_ret
        exact ⟨_, rfl, rfl, hf1⟩
      · have h60' : ¬ (xs.length : Int) > 60 := by omega
        clear hWK
        obtain ⟨h0, h1, h2, h3⟩ := few21 hf
        obtain ⟨N, rfl⟩ : ∃ N : Nat, n = (N : Int) := ⟨n.toNat, by omega⟩
        have hN : N ≤ 1024 := by omega
        have hN1 : N ≤ 100 := by omega
        have HT := Lib.hid hT
        have HX := Lib.hid hx
        have HS := Lib.hid hs
        have HL := Lib.hid hl
        have H3 := Lib.hid h3
        have HB := Lib.hid (build21_is (c := c) hl (by omega) hN h3)
        clear hl hT hP hf hx hp h3 hs hsp
        go_enter Tryd.func7, Tryd.ntmps7
        go_wp2_with (first
          | (go_at_call 13; refine (HF.out).mono ?_; rintro e w' ⟨rfl, rfl⟩)
          | (go_at_call 31; refine (HB.out).mono ?_; rintro e w1 ⟨v1, rfl, r, p, pt, J, J', rfl, hFW, hR, hG, hGt, hB1, hB2⟩; have HRN := Lib.hid (RefNew_is (c := c) (HL.out.fr0 hFW) hN H3.out))
          | (go_at_call 15; refine (HRN.out).mono ?_; rintro e w2 ⟨_, rfl, R, cR, rfl, hf2, hR2⟩; have hG2 : Fr0 w1 (w2.alloc (.cells #[.int .i64 (N : Int), .slice R N cR] 27)) := hf2.trans0 (fr_alloc _ _ _); have HT1 := Lib.hid (HT.out.fr hFW (fun x => x)); have HX1 := Lib.hid (HX.out.fr0 hFW); have HS1 := Lib.hid (HS.out.fr0 hFW); have HR := Lib.hid hR; have HG := Lib.hid hG; have HGt := Lib.hid hGt)
          | (go_at_call 34; refine (ToG_is (n := N) (J := J') (HR.out.fr0 hG7) (HGt.out.fr0 hG7) (hI6.fr0 hf7) hI7 m).mono ?_; rintro e w8 ⟨_, rfl, g8, a8, rfl, _, _, hf8, hI8⟩; have hG8 := hG7.trans0 hf8)
          | (go_at_call 33; refine (set21_is (c := d) (HT1.out.fr hG6 (fun x => x)) (HX1.out.fr0 hG6)).mono ?_; rintro e w7 ⟨_, rfl, g7, a7, rfl, _, _, hf7, hI7⟩; have hG7 := hG6.trans0 hf7)
          | (go_at_call 33; refine (set21_is (c := d2) (HT1.out.fr hG5 (fun x => x)) (HS1.out.fr0 hG5)).mono ?_; rintro e w6 ⟨_, rfl, g6, a6, rfl, _, _, hf6, hI6⟩; have hG6 := hG5.trans0 hf6)
          | (go_at_call 32; refine (FromG_is (n := N) (J := J) (HR.out.fr0 hG4) (HG.out.fr0 hG4) (hI3.fr0 hf4) hI4 m).mono ?_; rintro e w5 ⟨_, rfl, g5, a5, rfl, _, _, hf5, hI5⟩; have hG5 := hG4.trans0 hf5)
          | (go_at_call 33; refine (set21_is (c := d) (HT1.out.fr hG3 (fun x => x)) (HX1.out.fr0 hG3)).mono ?_; rintro e w4 ⟨_, rfl, g4, a4, rfl, _, _, hf4, hI4⟩; have hG4 := hG3.trans0 hf4)
          | (go_at_call 33; refine (set21_is (c := d2) (HT1.out.fr hG2 (fun x => x)) (HS1.out.fr0 hG2)).mono ?_; rintro e w3 ⟨_, rfl, g3, a3, rfl, _, _, hf3, hI3⟩; have hG3 := hG2.trans0 hf3))
        have hF8 : Fr0 W w8 := hFW.trans0 hG8
        have h28 : Fr0 (w2.alloc (.cells #[.int .i64 (N : Int), .slice R N cR] 27)) w8 := ((((hf3.trans0 hf4).trans0 hf5).trans0 hf6).trans0 hf7).trans0 hf8
        have h58 : Fr0 w5 w8 := (hf6.trans0 hf7).trans0 hf8
        have hhp : w8.heap[w2.heap.size]? = some (.cells #[.int .i64 (N : Int), .slice R N cR] 27 (0, 0)) := Fr0.heap' h28 (World.alloc_heap_new _ _)
        have b0 : w8.cell? ⟨w2.heap.size, 0, none⟩ = some (.int .i64 N) := by simp [World.cell?, hhp]
        have b1 : w8.cell? ⟨w2.heap.size, 1, none⟩ = some (.slice R N cR) := by simp [World.cell?, hhp]
        have hR8 : RefG w8 N R (mxL l) := (hR2.fr0 (fr_alloc _ _ _)).fr0 h28
        have hI58 := hI5.fr0 h58
        have er := from_agree (ss := ss) (ws := xs) (m := m) hN1 (fun u w => hB1.out m u w)
        have er2 := from_agree (J := J') (Mx := fun a b => mxL l b a) (ss := ss) (ws := xs) (m := m) hN1 (fun u w => (outR_swap N (mxL l) m u w).trans ((hB1.out m w u).trans (turn_arc hB1 hB2 m u w)))
        have HKS := Lib.hid (show ∀ w', Fr0 w8 w' → (Fr0 w8 w' ∧ w'.cell? ⟨w2.heap.size, 0, none⟩ = some (.int .i64 N) ∧ w'.cell? ⟨w2.heap.size, 1, none⟩ = some (.slice R N cR)) from fun w' f => ⟨f, f.cell b0 (fun x => x), f.cell b1 (fun x => x)⟩)
        have KA := Lib.hid (fun w' (f : Fr0 w8 w') => List_is (hI58.fr0 f))
        have KB := Lib.hid (fun w' (f : Fr0 w8 w') => FromR_is (c := cR) (d := d2) (e := d) (hR8.fr0 f) (HS1.out.fr0 (hG8.trans0 f)) (HX1.out.fr0 (hG8.trans0 f)) m)
        have KC := Lib.hid (fun w' (f : Fr0 w8 w') => List_is (hI8.fr0 f))
        have KD := Lib.hid (fun w' (f : Fr0 w8 w') => To21_is (c := cR) (d := d2) (e := d) (hR8.fr0 f) (HS1.out.fr0 (hG8.trans0 f)) (HX1.out.fr0 (hG8.trans0 f)) m)
        have KE := Lib.hid (fun w' (f : Fr0 w8 w') => Room_c g5 N w' (f.cell hI58.c0 (fun x => x)))
        have KF := Lib.hid (fun w' (f : Fr0 w8 w') => Room_c g8 N w' (f.cell hI8.c0 (fun x => x)))
        have KG := Lib.hid (fun w' (f : Fr0 w8 w') => LenR_is (n := N) (J := J) (HR.out.fr0 (hG8.trans0 f)) (HG.out.fr0 (hG8.trans0 f)))
        have KW := Lib.hid (fun w' (f : Fr0 w8 w') => works21_is (HT.out.fr (hF8.trans0 f) (fun x => x)))
        have q1 := elems_len N (fromB N J m (putP 100 (fun _ => false) ss) (putP 100 (fun _ => false) xs))
        have q2 := elems_len N (fromB N J' m (putP 100 (fun _ => false) ss) (putP 100 (fun _ => false) xs))
        rw [er] at KB
        rw [er2] at KD
        generalize elems N (fromB N J m (putP 100 (fun _ => false) ss) (putP 100 (fun _ => false) xs)) = la at KA KB q1
        generalize elems N (fromB N J' m (putP 100 (fun _ => false) ss) (putP 100 (fun _ => false) xs)) = lb at KC KD q2
        clear hhp hR8 er er2 hR2 hI3 hI4 hI5 hI6 hI7 hI8 hI58 hB1 hB2 hR hG hGt b0 b1 HF HB HRN
        go_region_held_law (fun w' => Fr0 w8 w' ∧ w'.cell? ⟨w2.heap.size, 0, none⟩ = some (.int .i64 N) ∧ w'.cell? ⟨w2.heap.size, 1, none⟩ = some (.slice R N cR))
          ((refine HKS.out _ ?_; first | exact fr_drew _ _ | assumption | exact And.left (by assumption)))
          (first
            | (go_at_call 20; have hmk := hF11; refine (KC.out _ (And.left (by assumption))).mono ?_; rintro e w12 ⟨v12, rfl, hf12, ho12⟩; obtain ⟨A12, c12, rfl⟩ := own_form ho12; have hF12 := Fr.trans0 (And.left (by assumption)) hf12)
            | (go_at_call 20; refine (KA.out _ (And.left (by assumption))).mono ?_; rintro e w9 ⟨v9, rfl, hf9, ho9⟩; obtain ⟨A9, c9, rfl⟩ := own_form ho9; have hF9 := Fr.trans0 (And.left (by assumption)) hf9)
            | (go_at_call 35; refine (KB.out _ (And.left (by assumption))).mono ?_; rintro e w10 ⟨v10, rfl, hf10, ho10⟩; obtain ⟨A10, c10, rfl⟩ := own_form ho10; have hF10 := Fr.trans0 (And.left (by assumption)) hf10)
            | (go_at_call 19; refine (SameN_is (own_fr0 ho12 hf13) ho13 (by omega)).mono ?_; rintro e w14 ⟨_, rfl, rfl, hf14⟩; have hF14 := Fr.trans0 (And.left (by assumption)) hf14)
            | (go_at_call 19; refine (SameN_is (own_fr0 ho9 hf10) ho10 (by omega)).mono ?_; rintro e w11 ⟨_, rfl, rfl, hf11⟩; have hF11 := Fr.trans0 (And.left (by assumption)) hf11)
            | (go_at_call 36; refine (KD.out _ (And.left (by assumption))).mono ?_; rintro e w13 ⟨v13, rfl, hf13, ho13⟩; obtain ⟨A13, c13, rfl⟩ := own_form ho13; have hF13 := Fr.trans0 (And.left (by assumption)) hf13)
            | (go_at_call 22; have hmk := hRoom1; refine (KF.out _ (And.left (by assumption))).mono ?_; rintro e w' ⟨rfl, rfl⟩)
            | (go_at_call 22; refine (KE.out _ (And.left (by assumption))).mono ?_; rintro e w' ⟨rfl, rfl⟩; have hRoom1 := True.intro)
            | (go_at_call 37; refine (KG.out _ (And.left (by assumption))).mono ?_; rintro e w' ⟨rfl, rfl⟩)
            | (go_at_call 30; refine (KW.out _ (And.left (by assumption))).mono ?_; rintro e w15 ⟨_, rfl, rfl, hf15⟩; have hF15 := Fr.trans0 (And.left (by assumption)) hf15))
        go_wp2_with fail
        go_ret
        exact ⟨_, rfl, rfl, hF8.trans0 hF15⟩
end Go.Proofs.YtdihpobegoihkaaDoor
