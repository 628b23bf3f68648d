/- How two texts and two rows of texts stand: the library's and the program's. Printed by gencmpt.py out of SetsE. -/
import Derived.Test.YtekigojbkhjdbaaTextSets
import Derived.Lib.Strings
namespace Go.Proofs.Ytekigojbkhjdbaa
set_option linter.all false
open Go.RowKit
set_option maxRecDepth 100000

theorem isNaN_str (x : ByteArray) (w : World) : Calls Try.prog 104 #[.string x] w fun e w' => e = .returned (.bool false) ∧ w = w' := by
  go_enter Try.func104, Try.ntmps104
  go_wp2
  go_ret
  exact ⟨by simp, rfl⟩
theorem tx_less (x y : Txt) : Op.bytesLess x y = decide (x < y) := bytesLess_eq x y
theorem tx_beq (x y : Txt) : (x == y) = decide (x = y) := by rw [Bool.eq_iff_iff]; simp
theorem cmpT_is (x y : Txt) (W : World) : Calls Try.prog 84 #[encStr x, encStr y] W fun e w' => e = .returned (.int .i64 (cmpT x y)) ∧ W = w' := by
  have h1 := tx_less x y
  have h2 := tx_less y x
  have h3 := tx_beq x y
  rcases tx_tri x y with h | h | h
  · have hr : cmpT x y = -1 := by rw [cmpT, if_pos h]
    rw [hr]
    have e1 : decide (x < y) = true := by simp [h]
    rw [e1] at h1
    clear h2 h3 h e1 hr
    go_enter Try.func84, Try.ntmps84
    go_wp2_with (go_at_call 104; refine (isNaN_str _ _).mono ?_; rintro e w' ⟨rfl, rfl⟩)
    go_ret
    exact ⟨rfl, rfl⟩
  · subst h
    have hr : cmpT x x = 0 := by rw [cmpT, if_neg (tx_irr _), if_neg (tx_irr _)]
    rw [hr]
    have e1 : decide (x < x) = false := by simp [tx_irr]
    have e3 : decide (x = x) = true := by simp
    rw [e1] at h1
    rw [e3] at h3
    clear h2 e1 e3 hr
    go_enter Try.func84, Try.ntmps84
    go_wp2_with (go_at_call 104; refine (isNaN_str _ _).mono ?_; rintro e w' ⟨rfl, rfl⟩)
    go_ret
    exact ⟨rfl, rfl⟩
  · have hr : cmpT x y = 1 := by rw [cmpT, if_neg (tx_asym h), if_pos h]
    rw [hr]
    have e1 : decide (x < y) = false := by simp [tx_asym h]
    have e3 : decide (x = y) = false := by simp; rintro rfl; exact tx_irr _ h
    rw [e1] at h1
    rw [e3] at h3
    clear h2 h e1 e3 hr
    go_enter Try.func84, Try.ntmps84
    go_wp2_with (go_at_call 104; refine (isNaN_str _ _).mono ?_; rintro e w' ⟨rfl, rfl⟩)
    go_ret
    exact ⟨rfl, rfl⟩
set_option maxHeartbeats 2000000 in
theorem lexCompareT_is {W : World} {A B : Option Addr} {c d : Nat} {xs ys : List Txt} (h1 : StrsAt W A xs) (h2 : StrsAt W B ys) (hl : xs.length = ys.length) (hsm : xs.length ≤ 10000000) :
    Calls Try.prog 85 #[.slice A xs.length c, .slice B ys.length d] W fun e w' => e = .returned (.int .i64 (lexT xs ys)) ∧ W = w' := by
  have H1 := Lib.hid h1
  have H2 := Lib.hid h2
  have hlI : (xs.length : Int) ≤ 10000000 := by omega
  have HL := Lib.hid hl
  rw [← hl]
  clear h1 h2 hl
  go_enter Try.func85, Try.ntmps85
  go_wp2
  go_loopw [11] (fun v11 wr => ∃ i : Nat, i ≤ xs.length ∧ v11 = .int .i64 i ∧ Hid (lexT xs ys = lexT (xs.drop i) (ys.drop i)) ∧ wr = W) (fun v11 _ => xs.length - (intOf v11).toNat)
  case atStart => exact ⟨0, by omega, rfl, Lib.hid (by simp), rfl⟩
  case round =>
    obtain ⟨i, hi, rfl, HX, rfl⟩ := hrel
    by_cases hlt : i < xs.length
    · have hlt' : (i : Int) < (xs.length : Int) := by omega
      obtain ⟨b, o, rfl, hc1⟩ := H1.out.at_ hlt
      obtain ⟨b', o', rfl, hc2⟩ := H2.out.at_ (k := i) (by have := HL.out; omega)
      have hd := lexT_drop hlt (show i < ys.length by have := HL.out; omega)
      generalize xs.getD i [] = x at hc1 hd
      generalize ys.getD i [] = y at hc2 hd
      have HD := Lib.hid (HX.out.trans hd)
      clear hd HX
      rcases tx_tri x y with hxy | rfl | hxy
      · have hcmp : cmpT x y = -1 := by rw [cmpT, if_pos hxy]
        have hr : lexT xs ys = -1 := by rw [HD.out, if_pos hxy]
        have HR := Lib.hid hr
        clear hr HD
        go_wp2_with (go_at_call 84; refine (cmpT_is _ _ _).mono ?_; rintro e w' ⟨rfl, rfl⟩; (try rw [hcmp]))
        go_ret
        exact ⟨by rw [HR.out]; rfl, rfl⟩
      · have hcmp : cmpT x x = 0 := by rw [cmpT, if_neg (tx_irr _), if_neg (tx_irr _)]
        have hr : lexT xs ys = lexT (xs.drop (i + 1)) (ys.drop (i + 1)) := by rw [HD.out, if_neg (tx_irr _), if_neg (tx_irr _)]
        have HR := Lib.hid hr
        clear hr HD
        go_wp2_with (go_at_call 84; refine (cmpT_is _ _ _).mono ?_; rintro e w' ⟨rfl, rfl⟩; (try rw [hcmp]))
        go_roundw
        case rel => exact ⟨i + 1, by omega, by go_num, HR, by first | rfl | trivial⟩
        case measure => simp [intOf]; omega
      · have hcmp : cmpT x y = 1 := by rw [cmpT, if_neg (tx_asym hxy), if_pos hxy]
        have hr : lexT xs ys = 1 := by rw [HD.out, if_neg (tx_asym hxy), if_pos hxy]
        have HR := Lib.hid hr
        clear hr HD
        go_wp2_with (go_at_call 84; refine (cmpT_is _ _ _).mono ?_; rintro e w' ⟨rfl, rfl⟩; (try rw [hcmp]))
        go_ret
        exact ⟨by rw [HR.out]; rfl, rfl⟩
    · have hie : i = xs.length := by omega
      subst hie
      have hr : lexT xs ys = 0 := by rw [HX.out, List.drop_length]; simp [lexT]
      have HR := Lib.hid hr
      clear hr HX
      go_wp2
      go_ret
      exact ⟨by rw [HR.out]; rfl, rfl⟩
theorem TCompare_is {W : World} {A B : Option Addr} {c d : Nat} {xs ys : List Txt} (h1 : StrsAt W A xs) (h2 : StrsAt W B ys) (hsm : xs.length ≤ 10000000) :
    Calls Try.prog 53 #[.slice A xs.length c, .slice B ys.length d] W fun e w' => e = .returned (.int .i64 (cmpL xs ys)) ∧ W = w' := by
  have H := Lib.hid (fun hl => lexCompareT_is (c := c) (d := d) h1 h2 hl hsm)
  clear h1 h2
  rcases Nat.lt_trichotomy xs.length ys.length with hl | hl | hl
  · have hcmp : Lib.compareInt (xs.length : Int) (ys.length : Int) = -1 := by rw [Lib.compareInt, if_pos (by omega)]
    have hr := Lib.hid (show cmpL xs ys = -1 by rw [cmpL, if_pos hl])
    clear hl H
    go_enter Try.func53, Try.ntmps53
    go_wp2_with (go_at_call 79; refine (Try.cmp_Compare_int _ _ _).mono ?_; rintro e w' ⟨rfl, rfl⟩; (try rw [hcmp]))
    go_ret
    exact ⟨by rw [hr.out]; rfl, rfl⟩
  · have hcmp : Lib.compareInt (xs.length : Int) (ys.length : Int) = 0 := by rw [Lib.compareInt, if_neg (by omega), if_neg (by omega)]
    have hr := Lib.hid (show cmpL xs ys = lexT xs ys by rw [cmpL, if_neg (by omega), if_neg (by omega)])
    have H2 := Lib.hid (H.out hl)
    clear hl H
    go_enter Try.func53, Try.ntmps53
    go_wp2_with (first
      | (go_at_call 79; refine (Try.cmp_Compare_int _ _ _).mono ?_; rintro e w' ⟨rfl, rfl⟩; (try rw [hcmp]))
      | (go_at_call 85; refine (H2.out).mono ?_; rintro e w' ⟨rfl, rfl⟩))
    go_ret
    exact ⟨by rw [hr.out]; rfl, rfl⟩
  · have hcmp : Lib.compareInt (xs.length : Int) (ys.length : Int) = 1 := by rw [Lib.compareInt, if_neg (by omega), if_pos (by omega)]
    have hr := Lib.hid (show cmpL xs ys = 1 by rw [cmpL, if_neg (by omega), if_pos hl])
    clear hl H
    go_enter Try.func53, Try.ntmps53
    go_wp2_with (go_at_call 79; refine (Try.cmp_Compare_int _ _ _).mono ?_; rintro e w' ⟨rfl, rfl⟩; (try rw [hcmp]))
    go_ret
    exact ⟨by rw [hr.out]; rfl, rfl⟩
theorem TSame_is {W : World} {A B : Option Addr} {c d : Nat} {xs ys : List Txt} (h1 : StrsAt W A xs) (h2 : StrsAt W B ys) (hsm : xs.length ≤ 10000000) :
    Calls Try.prog 15 #[.slice A xs.length c, .slice B ys.length d] W fun e w' => e = .returned (.bool (decide (xs = ys))) ∧ W = w' := by
  have H := Lib.hid (TCompare_is (c := c) (d := d) h1 h2 hsm)
  have hr : decide (xs = ys) = (cmpL xs ys == 0) := by rw [Bool.eq_iff_iff, decide_eq_true_iff, beq_iff_eq, cmpL_zero]
  rw [hr]
  generalize cmpL xs ys = z at H ⊢
  clear h1 h2 hr
  go_enter Try.func15, Try.ntmps15
  go_wp2_with (go_at_call 53; refine (H.out).mono ?_; rintro e w' ⟨rfl, rfl⟩)
  go_ret
  exact ⟨rfl, rfl⟩
end Go.Proofs.Ytekigojbkhjdbaa
