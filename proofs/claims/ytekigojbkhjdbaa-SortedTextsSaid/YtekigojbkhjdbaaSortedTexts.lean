/- SortedTexts walked. -/
import Derived.Test.YtekigojbkhjdbaaTexts5
import Derived.Test.YtekigojbkhjdbaaWorks05
import Derived.Test.YtekigojbkhjdbaaOpenStrs
namespace Go.Proofs.Ytekigojbkhjdbaa
set_option linter.all false
open Go.RowKit
attribute [local go_sem ↓] appendH_eq
set_option maxRecDepth 100000

/-- All texts, in a row of one's own. -/
theorem all_texts {W : World} {A B : Option Addr} {c d : Nat} {us ws : List Txt} (hA : StrsAt W A us) (hp : Plain A us.length c) (hB : StrsAt W B ws) (hp2 : Plain B ws.length d) (h1 : us.length ≤ 1000) (h2 : ws.length ≤ 1000) :
    ∃ v1 w1 v2 w2, (appendH #[22, 22] 22 #[.slice (some ⟨W.heap.size, 0, none⟩) 0 0, .slice A us.length c]).run Try.prog (W.alloc (.cells #[] 9)) = .ok v1 w1 ∧
      (appendH #[22, 22] 22 #[v1, .slice B ws.length d]).run Try.prog w1 = .ok v2 w2 ∧ Fr0 W w2 ∧ w2.ownsRow W.heap.size 9 1 v2 (us ++ ws).length (strsI (us ++ ws)) := by
  have hN := World.alloc_heap_new W (.cells #[] 9)
  obtain ⟨v1, w1, r1, o1, f1⟩ := run_append_lits hN (hA.fr0 (fr_alloc _ W _)) hp (by omega) 22 (B := W.heap.size) (Nat.le_refl _)
  have F1 : Fr0 W w1 := (fr_alloc _ W _).trans0 f1
  obtain ⟨v2, w2, r2, o2, f2⟩ := run_append_strs o1 (hB.fr0 F1) hp2 (by omega) F1.size 22
  exact ⟨v1, w1, v2, w2, r1, r2, F1.trans (append_fr0 o1 f2) (fun j hj e => own_old o1 hj e), o2⟩
/-- A row, and an empty text more. -/
theorem row_more {W : World} {A : Option Addr} {c : Nat} {us : List Txt} (hA : StrsAt W A us) (hp : Plain A us.length c) (h1 : us.length ≤ 1000) :
    ∃ v1 w1 v2 w2 M, (appendH #[22, 22] 22 #[.slice (some ⟨W.heap.size, 0, none⟩) 0 0, .slice A us.length c]).run Try.prog (W.alloc (.cells #[] 9)) = .ok v1 w1 ∧
      (appendH #[22, 22] 22 #[v1, .slice (some ⟨w1.heap.size, 0, none⟩) 1 1]).run Try.prog (w1.alloc (.cells #[.string ⟨#[]⟩] 9)) = .ok v2 w2 ∧ Fr0 W w2 ∧ Hid (M = us ++ [[]]) ∧ w2.ownsRow W.heap.size 9 1 v2 M.length (strsI M) := by
  have hN := World.alloc_heap_new W (.cells #[] 9)
  obtain ⟨v1, w1, r1, o1, f1⟩ := run_append_lits hN (hA.fr0 (fr_alloc _ W _)) hp (by omega) 22 (B := W.heap.size) (Nat.le_refl _)
  have F1 : Fr0 W w1 := (fr_alloc _ W _).trans0 f1
  have hl : StrsAt (w1.alloc (.cells #[.string ⟨#[]⟩] 9)) (some ⟨w1.heap.size, 0, none⟩) [[]] := strs_lit (t := 9) (fz := (0, 0)) (World.alloc_heap_new w1 _) (by decide)
  have F2 : Fr0 W (w1.alloc (.cells #[.string ⟨#[]⟩] 9)) := F1.alloc _
  obtain ⟨v2, w2, r2, o2, f2⟩ := run_append_strs (own_fr0 o1 (fr_alloc _ w1 _)) hl (fun e => by cases e) (by simp; omega) F2.size 22 (c := 1)
  exact ⟨v1, w1, v2, w2, _, r1, r2, F2.trans (append_fr0 (own_fr0 o1 (fr_alloc _ w1 _)) f2) (fun j hj e => own_old o1 hj e), Lib.hid rfl, o2⟩
theorem TSame_self {W : World} {A B : Option Addr} {c d : Nat} {xs : List Txt} (h1 : StrsAt W A xs) (h2 : StrsAt W B xs) (hsm : xs.length ≤ 10000000) :
    Calls Try.prog 15 #[.slice A xs.length c, .slice B xs.length d] W fun e w' => e = .returned (.bool true) ∧ W = w' := by
  have := TSame_is (c := c) (d := d) h1 h2 hsm
  rwa [show decide (xs = xs) = true by simp] at this
theorem TSame_more {W : World} {A B : Option Addr} {c d : Nat} {xs M : List Txt} (hM : M = xs ++ [[]]) (h1 : StrsAt W A xs) (h2 : StrsAt W B M) (hsm : xs.length ≤ 10000000) :
    Calls Try.prog 15 #[.slice A xs.length c, .slice B M.length d] W fun e w' => e = .returned (.bool false) ∧ W = w' := by
  have := TSame_is (c := c) (d := d) h1 h2 hsm
  rwa [show decide (xs = M) = false by
    rw [hM]; simp] at this

set_option maxHeartbeats 8000000 in
theorem SortedTexts_is {W : World} {A : Option Addr} {c : Nat} {us : List Txt} (hA : StrsAt W A us) (hp : Plain A us.length c) {B : Option Addr} {d : Nat} {ws : List Txt} (hB : StrsAt W B ws) (hp2 : Plain B ws.length d) :
    Calls Try.prog 3 #[.slice A us.length c, .slice B ws.length d] W (Rets (SamePost true W)) := by
  by_cases hbig : (60 : Int) < (us.length : Int)
  · go_enter Try.func3, Try.ntmps3
    go_wp2_with (go_at_call 10; refine (works05_is W).mono ?_; rintro e w' ⟨_, rfl, rfl, hf⟩)
    refine bodyPost_ret (results_tmp (t := 4) rfl _ _ _) rfl ?_
    exact ⟨_, rfl, rfl, hf⟩
  · by_cases hbig2 : (60 : Int) < (ws.length : Int)
    · go_enter Try.func3, Try.ntmps3
      go_wp2_with (go_at_call 10; refine (works05_is W).mono ?_; rintro e w' ⟨_, rfl, rfl, hf⟩)
      refine bodyPost_ret (results_tmp (t := 4) rfl _ _ _) rfl ?_
      exact ⟨_, rfl, rfl, hf⟩
    · obtain ⟨v1, w1, v2, w2, r1, r2, F2, o2⟩ := all_texts hA hp hB hp2 (by omega) (by omega)
      obtain ⟨AL, cL, rfl⟩ := own_form o2
      have HA := Lib.hid (hA.fr0 F2)
      have HB := Lib.hid (hB.fr0 F2)
      have hlen : (us ++ ws).length = us.length + ws.length := List.length_append
      have HR : Hid (ofT (ofT us ++ ofT ws) = ofT (us ++ ws)) := Lib.hid (ofT_congr (fun x => by simp [mem_ofT]))
      have hol1 := len_ofT us
      have hol2 := len_ofT ws
      have hol := len_ofT (us ++ ws)
      generalize hLL : us ++ ws = L at o2 hlen HR hol r2
      have hL120 : L.length ≤ 120 := by omega
      clear hlen
      have O2 := Lib.hid o2
      have HL := Lib.hid (own_strs o2 (by omega))
      clear hA hB hLL o2
      go_enter Try.func3, Try.ntmps3
      go_wp2_with fail
      go_loopw [6] (fun v6 wr => ∃ k : Nat, k ≤ L.length ∧ v6 = .int .i64 k ∧ Fr0 w2 wr) (fun v6 _ => L.length - (intOf v6).toNat)
      case atStart => exact ⟨0, by omega, rfl, Fr.refl _ _⟩
      case round =>
        obtain ⟨k, hk, rfl, hf⟩ := hrel
        by_cases hlt : k < L.length
        · obtain ⟨q, o, rfl, hc⟩ := (HL.out.fr0 hf).at_ hlt
          have hlt' : (k : Int) < (L.length : Int) := by omega
          generalize L.getD k [] = t at hc
          by_cases hb : (100 : Int) < (t.length : Int)
          · go_wp2_with (go_at_call 10; refine (works05_is _).mono ?_; rintro e w' ⟨_, rfl, rfl, hf9⟩)
            refine bodyPost_ret (results_tmp (t := 4) rfl _ _ _) rfl ?_
            exact ⟨_, rfl, rfl, (F2.trans0 hf).trans0 hf9⟩
          · go_wp2_with fail
            go_roundw
            case rel => exact ⟨k + 1, by omega, by go_num, hf⟩
            case measure => simp [intOf]; omega
        · have hge : ¬ (k : Int) < (L.length : Int) := by omega
          have HOf := Lib.hid (TOf_is (HA.out.fr0 hf) hp (by omega))
          have HWi := Lib.hid (fun (w' : World) (A3 : Option Addr) (c3 : Nat) (f : Fr0 wr w') (hS : TSetAt w' A3 c3 (ofT us)) => TWith_is hS ((HB.out.fr0 hf).fr0 f) hp2 (by omega))
          rw [HR.out] at HWi
          have HTx := Lib.hid (fun (w' : World) (f : Fr0 wr w') => Texts5_is (c := cL) ((HL.out.fr0 hf).fr0 f) (by omega))
          have hRl : (ofT L).length ≤ 120 := by omega
          have hUl : (ofT us).length ≤ 60 := by omega
          clear HR hol hol1 hol2
          generalize ofT L = R at HWi HTx hRl
          generalize ofT us = U at HOf HWi hUl
          have F2W := F2.trans0 hf
          clear r1 r2 O2
          go_wp2_with (first
            | (go_at_call 15; (with_reducible refine (TSame_more HM.out (own_strs (own_fr0 (own_fr0 ho6 hf7) F9) (by omega)) (own_strs o9 (by rw [HM.out, List.length_append]; simp; omega)) (by omega)).mono ?_); rintro e w' ⟨rfl, rfl⟩)
            | (go_at_call 15; (with_reducible refine (TSame_self (own_strs (own_fr0 ho6 hf7) (by omega)) (own_strs ho7 (by omega)) (by omega)).mono ?_); rintro e w' ⟨rfl, rfl⟩)
            | (go_at_call 14; refine (HTx.out _ F6).mono ?_; rintro e w7 ⟨v7, rfl, hf7, ho7⟩; obtain ⟨A7, c7, rfl⟩ := own_form ho7; obtain ⟨x1, y1, x2, y2, M, q1, q2, F9, HM, o9⟩ := row_more (own_strs ho7 (by omega)) (plain_own ho7) (by omega); obtain ⟨A9, c9, rfl⟩ := own_form o9)
            | (go_at_call 13; refine (TList_is hS5).mono ?_; rintro e w6 ⟨v6, rfl, hf6, ho6⟩; obtain ⟨A6, c6, rfl⟩ := own_form ho6; have F6 := F5.trans0 hf6)
            | (go_at_call 12; refine (HWi.out _ _ _ (hf3.alloc _) (hS3.fr0 (fr_alloc _ _ _))).mono ?_; rintro e w5 ⟨_, rfl, A5, c5, rfl, hf5, hS5, hN5⟩; have F5 := (hf3.alloc (.cells #[.slice A3 U.length c3] 25)).trans0 hf5)
            | (go_at_call 11; refine (HOf.out).mono ?_; rintro e w3 ⟨_, rfl, A3, c3, rfl, hf3, hS3, hN3⟩))
          have H6 := Lib.hid (own_strs (own_fr0 (own_fr0 ho6 hf7) F9) (by omega))
          have H7 := Lib.hid (own_strs (own_fr0 ho7 F9) (by omega))
          have FY : Fr0 W y2 := (F2W.trans0 (F6.trans0 hf7)).trans0 F9
          clear q1 q2 o9 HM F9 ho6 ho7 hf6 hf7 F6 F5 hf5 hS5 hN5 hf3 hS3 hN3 HOf HWi HTx F2W hge hlt hk hf
          go_loopw [10] (fun v10 wz => ∃ j : Nat, j ≤ R.length ∧ v10 = .int .i64 j ∧ Fr0 y2 wz) (fun v10 _ => R.length - (intOf v10).toNat)
          case atStart => exact ⟨0, by omega, rfl, Fr.refl _ _⟩
          case round =>
            obtain ⟨j, hj, rfl, hf⟩ := hrel
            by_cases hjr : j < R.length
            · obtain ⟨q6, o6, rfl, hc6⟩ := (H6.out.fr0 hf).at_ hjr
              obtain ⟨q7, o7, rfl, hc7⟩ := (H7.out.fr0 hf).at_ hjr
              have hjr' : (j : Int) < (R.length : Int) := by omega
              have hb6 := cell_blk_lt hc6
              have hb7 := cell_blk_lt hc7
              generalize R.getD j [] = z at hc6 hc7
              go_wp2_with fail
              go_region
              go_wp2_with fail
              go_roundw
              case rel => exact ⟨j + 1, by omega, by go_num, by first | exact hf.drew | exact hf.trans0 (fr_drewN _ _ _)⟩
              case measure => simp [intOf]; omega
            · have hjr' : ¬ (j : Int) < (R.length : Int) := by omega
              go_wp2_with (go_at_call 10; refine (works05_is _).mono ?_; rintro e w' ⟨_, rfl, rfl, hf9⟩)
              refine bodyPost_ret (results_tmp (t := 4) rfl _ _ _) rfl ?_
              exact ⟨_, rfl, rfl, (FY.trans0 hf).trans0 hf9⟩
end Go.Proofs.Ytekigojbkhjdbaa
