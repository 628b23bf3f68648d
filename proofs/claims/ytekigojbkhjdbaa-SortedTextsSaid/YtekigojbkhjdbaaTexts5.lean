/- The document's set of a row of texts; the program's list of a set. -/
import Derived.Test.YtekigojbkhjdbaaTextOr
namespace Go.Proofs.Ytekigojbkhjdbaa
set_option linter.all false
open Go.RowKit
set_option maxRecDepth 100000

theorem cell_blk_lt {w : World} {b o : Nat} {v : Value} (h : w.cell? ⟨b, o, none⟩ = some v) : b < w.heap.size := by
  by_cases hl : b < w.heap.size
  · exact hl
  · rw [World.cell?, Array.getElem?_eq_none (by simpa using hl)] at h; cases h
theorem TList_is {W : World} {A : Option Addr} {c : Nat} {zs : List Txt} (h : TSetAt W A c zs) : Calls Try.prog 13 #[setV A zs.length c] W (Rets (SListPost W zs)) := by
  have hs := h.small
  have HC := Lib.hid (cloneT_is (h.ints.fr0 (fr_alloc _ W (.cells #[.slice A zs.length c] 25))) h.plain (by omega))
  clear h
  go_enter Try.func13, Try.ntmps13
  go_wp2_with (go_at_call 49; refine (HC.out).mono ?_; rintro e w1 ⟨v1, rfl, hf1, ho1⟩)
  go_ret
  exact ⟨_, rfl, (fr_alloc _ _ _).trans0 hf1, ho1.mono (by simp)⟩
set_option maxHeartbeats 4000000 in
theorem Texts5_is {W : World} {A : Option Addr} {c : Nat} {xs : List Txt} (h : StrsAt W A xs) (hsm : xs.length ≤ 1000000) :
    Calls Try.prog 14 #[.slice A xs.length c] W (Rets (SListPost W (ofT xs))) := by
  obtain ⟨i0, hi, hz0, hz1, hz2⟩ := info_parts info_str
  have hle := len_ofT xs
  have HX := Lib.hid h
  clear h
  go_enter Try.func14, Try.ntmps14
  go_wp2_with fail
  go_loopw [3, 4] (fun v3 v4 wr => ∃ n : Nat, n ≤ (ofT xs).length ∧ v4 = .int .i64 n ∧ Fr0 W wr ∧ Hid (wr.ownsRow W.heap.size 9 1 v3 n (strsI ((ofT xs).take n)))) (fun _ v4 _ => xs.length + 1 - (intOf v4).toNat)
  case atStart => exact ⟨0, by omega, rfl, Fr.refl _ _, Lib.hid (own_nil _ _ _ _)⟩
  case round =>
    obtain ⟨n, hn, rfl, hf, HO⟩ := hrel
    obtain ⟨A3, c3, e3⟩ := own_form HO.out
    subst e3
    have hn' : (n : Int) ≤ (xs.length : Int) := by omega
    have hlt3 : ((ofT xs).take n).length = n := by rw [List.length_take]; omega
    go_wp2_with fail
    rename World => wo
    go_loopw [5, 6, 7] (fun v5 v6 v7 w2 => ∃ (k : Nat) (f : Bool) (b : Txt), k ≤ xs.length ∧ v7 = .int .i64 k ∧ v6 = .bool f ∧ v5 = encStr b ∧ Hid (MinT (xs.take k) ((ofT xs).take n) f b) ∧ Fr0 wo w2) (fun _ _ v7 _ => xs.length - (intOf v7).toNat)
    case atStart => exact ⟨0, false, [], by omega, rfl, rfl, rfl, Lib.hid (MinT.nil _ _), Fr.refl _ _⟩
    case round =>
      obtain ⟨k, f, b, hk, rfl, rfl, rfl, HM, hf2⟩ := hrel
      have hfW : Fr0 W wr := hf.trans0 hf2
      have hoW := Lib.hid (own_fr0 HO.out hf2)
      by_cases hlt : k < xs.length
      · obtain ⟨q, o, rfl, hc⟩ := (HX.out.fr0 hfW).at_ hlt
        have hlt' : (k : Int) < (xs.length : Int) := by omega
        have HL3 := Lib.hid (own_strs (c := c3) (l := (ofT xs).take n) (by rw [hlt3]; exact hoW.out) (by omega))
        have HT := Lib.hid (take_succ_S xs k hlt)
        generalize xs.getD k [] = y at hc HT
        have HT3 := Lib.hid (fun j (hj : j < n) => take_succ_S ((ofT xs).take n) j (by rw [hlt3]; exact hj))
        have HN3 := Lib.hid (show ((ofT xs).take n).take n = (ofT xs).take n by rw [List.take_take]; congr 1; omega)
        go_wp2_with fail
        rename World => wm
        go_loopw [8, 9] (fun v8 v9 w3 => ∃ (j : Nat) (g : Bool), j ≤ n ∧ v9 = .int .i64 j ∧ v8 = .bool g ∧ Hid (g = decide (y ∈ ((ofT xs).take n).take j)) ∧ Fr0 wm w3) (fun _ v9 _ => n - (intOf v9).toNat)
        case atStart => exact ⟨0, false, by omega, rfl, rfl, Lib.hid (by simp), Fr.refl _ _⟩
        case round =>
          obtain ⟨j, g, hj, rfl, rfl, HG, hf3⟩ := hrel
          have hc := hf3.cell hc (fun x => x)
          have hbk := cell_blk_lt hc
          by_cases hjn : j < n
          · have hjn' : (j : Int) < (n : Int) := by omega
            obtain ⟨q3, o3, rfl, hc3⟩ := (HL3.out.fr0 hf3).at_ (k := j) (by rw [hlt3]; exact hjn)
            have HT4 := Lib.hid (HT3.out j hjn)
            generalize ((ofT xs).take n).getD j [] = z at hc3 HT4
            have hb3 := cell_blk_lt hc3
            cases g with
            | true =>
              have HG2 := Lib.hid (show true = decide (y ∈ ((ofT xs).take n).take (j + 1)) by
                have := HG.out
                rw [HT4.out]; simp at this ⊢; exact .inl this)
              go_wp2_with fail
              go_quiet (fail)
              go_wp2_with fail
              go_roundw
              case rel => exact ⟨j + 1, true, by omega, by go_num, rfl, HG2, by first | exact hf3.trans0 (fr_drewN _ _ _) | exact hf3.drew⟩
              case measure => simp [intOf]; omega
            | false =>
              have HG2 := Lib.hid (show decide (z = y) = decide (y ∈ ((ofT xs).take n).take (j + 1)) by
                have := HG.out
                rw [HT4.out, Bool.eq_iff_iff]; simp at this ⊢
                constructor
                · intro e; exact .inr e.symm
                · rintro (h | h)
                  · exact absurd h this
                  · exact h.symm)
              have hzy : (z == y) = decide (z = y) := by rw [Bool.eq_iff_iff]; simp
              generalize decide (z = y) = g2 at HG2 hzy
              go_wp2_with fail
              go_region
              go_wp2_with fail
              go_roundw
              case rel => exact ⟨j + 1, g2, by omega, by go_num, rfl, HG2, by first | exact hf3.drew | exact hf3.trans0 (fr_drewN _ _ _)⟩
              case measure => simp [intOf]; omega
          · have hje : j = n := by omega
            have hjn' : ¬ (j : Int) < (n : Int) := by omega
            have HG2 := HG.out
            rw [hje, HN3.out] at HG2
            by_cases hm : y ∈ (ofT xs).take n
            · have hd : decide (y ∈ (ofT xs).take n) = true := by simpa using hm
              rw [hd] at HG2
              have HS := Lib.hid (HM.out.skip (.inl hm))
              clear hd hm HG
              subst HG2
              go_wp2_with fail
              go_roundw
              case rel => exact ⟨k + 1, f, b, by omega, by go_num, rfl, rfl, Lib.hid (by rw [HT.out]; exact HS.out), hf2.trans0 hf3⟩
              case measure => simp [intOf]; omega
            · have hd : decide (y ∈ (ofT xs).take n) = false := by simpa using hm
              rw [hd] at HG2
              have HN := Lib.hid hm
              clear hd hm HG
              subst HG2
              cases f with
              | false =>
                have HS := Lib.hid (HM.out.take HN.out (fun h => by cases h))
                go_wp2_with fail
                go_roundw
                case rel => exact ⟨k + 1, true, y, by omega, by go_num, rfl, rfl, Lib.hid (by rw [HT.out]; exact HS.out), hf2.trans0 hf3⟩
                case measure => simp [intOf]; omega
              | true =>
                by_cases hyb : y < b
                · have HS := Lib.hid (HM.out.take HN.out (fun _ => hyb))
                  have hyl : Op.bytesLess y b = true := by rw [tx_less]; simp [hyb]
                  clear hyb
                  go_wp2_with fail
                  go_roundw
                  case rel => exact ⟨k + 1, true, y, by omega, by go_num, rfl, rfl, Lib.hid (by rw [HT.out]; exact HS.out), hf2.trans0 hf3⟩
                  case measure => simp [intOf]; omega
                · have HS := Lib.hid (HM.out.skip (x := y) (.inr ⟨rfl, hyb⟩))
                  have hyl : Op.bytesLess y b = false := by rw [tx_less]; simp [hyb]
                  clear hyb
                  go_wp2_with fail
                  go_roundw
                  case rel => exact ⟨k + 1, true, b, by omega, by go_num, rfl, rfl, Lib.hid (by rw [HT.out]; exact HS.out), hf2.trans0 hf3⟩
                  case measure => simp [intOf]; omega
      · have hke : k = xs.length := by omega
        have hM := HM.out
        rw [hke, List.take_of_length_le (Nat.le_refl _)] at hM
        have hD := MinT.done hM
        clear hM HM
        replace hf := hfW
        replace HO := hoW
        clear hfW hoW
        cases f with
        | false =>
          have HD := Lib.hid (hD.2 rfl)
          clear hD
          go_wp2_with fail
          go_ret
          have ho := HO.out
          have hnn : n = (ofT xs).length := by rw [← hlt3, HD.out]
          rw [HD.out] at ho
          refine ⟨_, rfl, hf, ?_⟩
          rw [hnn] at ho
          exact hnn ▸ ho
        | true =>
          obtain ⟨hd1, hd2⟩ := hD.1 rfl
          clear hD
          subst hd2
          have HT := Lib.hid (take_succ_S (ofT xs) n hd1)
          have hsz := hf.size
          generalize (ofT xs).getD n [] = y at HT
          go_wp2_with (at_builtin; refine wpList_append_own _ rfl _ _ 22 rfl W.heap.size 9 i0 (.string ⟨#[]⟩) 1 16 Try.underlying22 hi hz0 hz1 hz2 rfl (by decide) _ _ _ rfl (own_fr0 HO.out (fr_alloc _ _ _)) _ 1 1 [encStr y] rfl rfl (cell_one_new _ _ _) (by simp [Value.oneCell']) (by unfold maxLen; omega) (by omega) (by simp; omega) ?_; intro v' w2 hown' hgrow _)
          go_roundw
          case rel =>
            rw [strsI_snoc, ← HT.out] at hown'
            exact ⟨n + 1, by omega, by go_num, (hf.alloc _).trans (append_fr0 (own_fr0 HO.out (fr_alloc _ _ _)) hgrow) (fun j hj e => own_old HO.out hj e), Lib.hid hown'⟩
          case measure => simp [intOf]; omega
end Go.Proofs.Ytekigojbkhjdbaa
