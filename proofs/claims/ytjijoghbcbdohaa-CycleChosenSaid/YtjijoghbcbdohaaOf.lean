/- The document's set of a row. -/
import Derived.Test.YtjijoghbcbdohaaSetPure
import Derived.Test.YtjijoghbcbdohaaRefA
namespace Go.Proofs.Ytjijoghbcbdohaa
set_option linter.all false
open Go.RowKit
set_option maxRecDepth 100000

set_option maxHeartbeats 2000000 in
theorem Of_is {W : World} {A : Option Addr} {c : Nat} {xs : List Int} (h : IntsAt W A xs) (hsm : xs.length ≤ 10000000) :
    Calls Try.prog 25 #[.slice A xs.length c] W (Rets (IListPost W (ofI xs))) := by
  obtain ⟨i0, hi, hz0, hz1, hz2⟩ := info_parts info_int
  have hle := len_ofI xs
  have HX := Lib.hid h
  clear h
  go_enter Try.func25, Try.ntmps25
  go_wp2_with fail
  go_loopw [3, 4] (fun v3 v4 wr => ∃ n : Nat, n ≤ (ofI xs).length ∧ v4 = .int .i64 n ∧ Fr0 W wr ∧ Hid (wr.ownsRow W.heap.size 3 1 v3 n (intsI ((ofI xs).take n)))) (fun _ v4 _ => xs.length + 1 - (intOf v4).toNat)
  case atStart => exact ⟨0, by omega, rfl, Fr.refl _ _, Lib.hid (own_nil _ _ _ _)⟩
  case round =>
    obtain ⟨n, hn, rfl, hf, HO⟩ := hrel
    obtain ⟨A3, c3, e3⟩ := own_form HO.out
    subst e3
    have hn' : (n : Int) ≤ (xs.length : Int) := by omega
    have hlt3 : ((ofI xs).take n).length = n := by rw [List.length_take]; omega
    go_wp2_with fail
    go_loopw [5, 6, 7] (fun v5 v6 v7 w2 => ∃ (k : Nat) (f : Bool) (b : Int), k ≤ xs.length ∧ v7 = .int .i64 k ∧ v6 = .bool f ∧ v5 = .int .i64 b ∧ Hid (MinOf (xs.take k) ((ofI xs).take n) f b) ∧ w2 = wr) (fun _ _ v7 _ => xs.length - (intOf v7).toNat)
    case atStart => exact ⟨0, false, 0, by omega, rfl, rfl, rfl, Lib.hid (MinOf.nil _ _), rfl⟩
    case round =>
      obtain ⟨k, f, b, hk, rfl, rfl, rfl, HM, rfl⟩ := hrel
      by_cases hlt : k < xs.length
      · obtain ⟨q, o, rfl, hc⟩ := (HX.out.fr0 hf).at_ hlt
        have hlt' : (k : Int) < (xs.length : Int) := by omega
        have HH := Lib.hid (fun y : Int => Has5_is (c := c3) (own_intsI (by rw [hlt3]; exact HO.out) (by omega)) y)
        rw [hlt3] at HH
        have HT := Lib.hid (take_succ_I xs k hlt)
        generalize xs.getD k 0 = y at hc HT
        replace HH := Lib.hid (HH.out y)
        by_cases hm : y ∈ (ofI xs).take n
        · have hd : decide (y ∈ (ofI xs).take n) = true := by simpa using hm
          rw [hd] at HH
          have HS := Lib.hid (HM.out.skip (.inl hm))
          clear hd hm
          go_wp2_with (go_at_call 42; refine (HH.out).mono ?_; rintro e w' ⟨rfl, rfl⟩)
          go_roundw
          case rel => exact ⟨k + 1, f, b, by omega, by go_num, rfl, rfl, Lib.hid (by rw [HT.out]; exact HS.out), by trivial⟩
          case measure => simp [intOf]; omega
        · have hd : decide (y ∈ (ofI xs).take n) = false := by simpa using hm
          rw [hd] at HH
          have HN := Lib.hid hm
          clear hd hm
          cases f with
          | false =>
            have HS := Lib.hid (HM.out.take HN.out (fun h => by cases h))
            go_wp2_with (go_at_call 42; refine (HH.out).mono ?_; rintro e w' ⟨rfl, rfl⟩)
            go_roundw
            case rel => exact ⟨k + 1, true, y, by omega, by go_num, rfl, rfl, Lib.hid (by rw [HT.out]; exact HS.out), by trivial⟩
            case measure => simp [intOf]; omega
          | true =>
            by_cases hyb : y < b
            · have HS := Lib.hid (HM.out.take HN.out (fun _ => hyb))
              go_wp2_with (go_at_call 42; refine (HH.out).mono ?_; rintro e w' ⟨rfl, rfl⟩)
              go_roundw
              case rel => exact ⟨k + 1, true, y, by omega, by go_num, rfl, rfl, Lib.hid (by rw [HT.out]; exact HS.out), by trivial⟩
              case measure => simp [intOf]; omega
            · have HS := Lib.hid (HM.out.skip (x := y) (.inr ⟨rfl, by omega⟩))
              go_wp2_with (go_at_call 42; refine (HH.out).mono ?_; rintro e w' ⟨rfl, rfl⟩)
              go_roundw
              case rel => exact ⟨k + 1, true, b, by omega, by go_num, rfl, rfl, Lib.hid (by rw [HT.out]; exact HS.out), by trivial⟩
              case measure => simp [intOf]; omega
      · have hke : k = xs.length := by omega
        have hM := HM.out
        rw [hke, List.take_of_length_le (Nat.le_refl _)] at hM
        have hD := MinOf.done hM
        clear hM HM
        cases f with
        | false =>
          have HD := Lib.hid (hD.2 rfl)
          clear hD
          go_wp2_with fail
          go_ret
          have ho := HO.out
          have hnn : n = (ofI xs).length := by rw [← hlt3, HD.out]
          rw [HD.out] at ho
          refine ⟨_, rfl, hf, ?_⟩
          rw [hnn] at ho
          exact hnn ▸ ho
        | true =>
          obtain ⟨hd1, hd2⟩ := hD.1 rfl
          clear hD
          subst hd2
          have HT := Lib.hid (take_succ_I (ofI xs) n hd1)
          have hsz := hf.size
          generalize (ofI xs).getD n 0 = y at HT
          go_wp2_with (at_builtin; refine wpList_append_own _ rfl _ _ 22 rfl W.heap.size 3 i0 (.int .i64 0) 1 8 Try.underlying22 hi hz0 hz1 hz2 rfl (by decide) _ _ _ rfl (own_fr0 HO.out (fr_alloc _ _ _)) _ 1 1 [.int .i64 y] rfl rfl (cell_one_new _ _ _) (by simp [Value.oneCell']) (by unfold maxLen; omega) (by omega) (by simp; omega) ?_; intro v' w2 hown' hgrow _)
          go_roundw
          case rel =>
            rw [intsI_snoc, ← HT.out] at hown'
            exact ⟨n + 1, by omega, by go_num, (hf.alloc _).trans (append_fr0 (own_fr0 HO.out (fr_alloc _ _ _)) hgrow) (fun j hj e => own_old HO.out hj e), Lib.hid hown'⟩
          case measure => simp [intOf]; omega
theorem SameO_is {W : World} {B B' c d : Nat} {A A' : Option Addr} {l : List Int} (h : W.ownsRow B 3 1 (.slice A l.length c) l.length (intsI l)) (h2 : W.ownsRow B' 3 1 (.slice A' l.length d) l.length (intsI l)) (hlen : l.length ≤ 1000000) :
    Calls Try.prog 9 #[.slice A l.length c, .slice A' l.length d] W (Rets (SamePost true W)) := by
  have := Same_is (c := c) (d := d) (own_intsI h (by omega)) (own_intsI h2 (by omega))
  simpa using this
end Go.Proofs.Ytjijoghbcbdohaa
