/- How two rows of whole numbers stand: the library's, the program's and the document's. -/
import Derived.Test.YtidpmbbkpclccaaShelf
import Derived.Test.YtidpmbbkpclccaaCmpPure
import Derived.Test.YtidpmbbkpclccaaRefA
namespace Go.Proofs.Ytidpmbbkpclccaa
set_option linter.all false
open Go.RowKit
set_option maxRecDepth 100000

set_option maxHeartbeats 2000000 in
theorem lexCompare_is {W : World} {A B : Option Addr} {c d : Nat} {xs ys : List Int} (h1 : IntsAt W A xs) (h2 : IntsAt W B ys) (hl : xs.length = ys.length) (hsm : xs.length ≤ 10000000) :
    Calls Try.prog 50 #[.slice A xs.length c, .slice B ys.length d] W fun e w' => e = .returned (.int .i64 (lexS xs ys)) ∧ W = w' := by
  have H1 := Lib.hid h1
  have H2 := Lib.hid h2
  have hlI : (xs.length : Int) ≤ 10000000 := by omega
  have HL := Lib.hid hl
  rw [← hl]
  clear h1 h2 hl
  go_enter Try.func50, Try.ntmps50
  go_wp2
  go_loopw [11] (fun v11 wr => ∃ i : Nat, i ≤ xs.length ∧ v11 = .int .i64 i ∧ Hid (lexS xs ys = lexS (xs.drop i) (ys.drop i)) ∧ wr = W) (fun v11 _ => xs.length - (intOf v11).toNat)
  case atStart => exact ⟨0, by omega, rfl, Lib.hid (by simp), rfl⟩
  case round =>
    obtain ⟨i, hi, rfl, HX, rfl⟩ := hrel
    by_cases hlt : i < xs.length
    · have hlt' : (i : Int) < (xs.length : Int) := by omega
      obtain ⟨b, o, rfl, hc1⟩ := H1.out.at_ hlt
      obtain ⟨b', o', rfl, hc2⟩ := H2.out.at_ (k := i) (by have := HL.out; omega)
      have hd := lexS_drop hlt (show i < ys.length by have := HL.out; omega)
      generalize xs.getD i 0 = x at hc1 hd
      generalize ys.getD i 0 = y at hc2 hd
      have HD := Lib.hid (HX.out.trans hd)
      clear hd HX
      rcases Int.lt_trichotomy x y with hxy | rfl | hxy
      · have hcmp : Lib.compareInt x y = -1 := by rw [Lib.compareInt, if_pos hxy]
        have hr : lexS xs ys = -1 := by rw [HD.out, if_pos hxy]
        have HR := Lib.hid hr
        clear hr HD
        go_wp2_with (go_at_call 45; refine (Try.cmp_Compare_int _ _ _).mono ?_; rintro e w' ⟨rfl, rfl⟩; (try rw [hcmp]))
        go_ret
        exact ⟨by rw [HR.out]; rfl, rfl⟩
      · have hcmp : Lib.compareInt x x = 0 := by rw [Lib.compareInt, if_neg (by omega), if_neg (by omega)]
        have hr : lexS xs ys = lexS (xs.drop (i + 1)) (ys.drop (i + 1)) := by rw [HD.out, if_neg (by omega), if_neg (by omega)]
        have HR := Lib.hid hr
        clear hr HD
        go_wp2_with (go_at_call 45; refine (Try.cmp_Compare_int _ _ _).mono ?_; rintro e w' ⟨rfl, rfl⟩; (try rw [hcmp]))
        go_roundw
        case rel => exact ⟨i + 1, by omega, by go_num, HR, by first | rfl | trivial⟩
        case measure => simp [intOf]; omega
      · have hcmp : Lib.compareInt x y = 1 := by rw [Lib.compareInt, if_neg (by omega), if_pos (by omega)]
        have hr : lexS xs ys = 1 := by rw [HD.out, if_neg (by omega), if_pos (by omega)]
        have HR := Lib.hid hr
        clear hr HD
        go_wp2_with (go_at_call 45; refine (Try.cmp_Compare_int _ _ _).mono ?_; rintro e w' ⟨rfl, rfl⟩; (try rw [hcmp]))
        go_ret
        exact ⟨by rw [HR.out]; rfl, rfl⟩
    · have hie : i = xs.length := by omega
      subst hie
      have hr : lexS xs ys = 0 := by rw [HX.out, List.drop_length]; simp [lexS]
      have HR := Lib.hid hr
      clear hr HX
      go_wp2
      go_ret
      exact ⟨by rw [HR.out]; rfl, rfl⟩
theorem SCompare_is {W : World} {A B : Option Addr} {c d : Nat} {xs ys : List Int} (h1 : IntsAt W A xs) (h2 : IntsAt W B ys) (hsm : xs.length ≤ 10000000) :
    Calls Try.prog 32 #[.slice A xs.length c, .slice B ys.length d] W fun e w' => e = .returned (.int .i64 (cmpS xs ys)) ∧ W = w' := by
  have H := Lib.hid (fun hl => lexCompare_is (c := c) (d := d) h1 h2 hl hsm)
  clear h1 h2
  rcases Nat.lt_trichotomy xs.length ys.length with hl | hl | hl
  · have hcmp : Lib.compareInt (xs.length : Int) (ys.length : Int) = -1 := by rw [Lib.compareInt, if_pos (by omega)]
    have hr := Lib.hid (show cmpS xs ys = -1 by rw [cmpS, if_pos hl])
    clear hl H
    go_enter Try.func32, Try.ntmps32
    go_wp2_with (go_at_call 45; refine (Try.cmp_Compare_int _ _ _).mono ?_; rintro e w' ⟨rfl, rfl⟩; (try rw [hcmp]))
    go_ret
    exact ⟨by rw [hr.out]; rfl, rfl⟩
  · have hcmp : Lib.compareInt (xs.length : Int) (ys.length : Int) = 0 := by rw [Lib.compareInt, if_neg (by omega), if_neg (by omega)]
    have hr := Lib.hid (show cmpS xs ys = lexS xs ys by rw [cmpS, if_neg (by omega), if_neg (by omega)])
    have H2 := Lib.hid (H.out hl)
    clear hl H
    go_enter Try.func32, Try.ntmps32
    go_wp2_with (first
      | (go_at_call 45; refine (Try.cmp_Compare_int _ _ _).mono ?_; rintro e w' ⟨rfl, rfl⟩; (try rw [hcmp]))
      | (go_at_call 50; refine (H2.out).mono ?_; rintro e w' ⟨rfl, rfl⟩))
    go_ret
    exact ⟨by rw [hr.out]; rfl, rfl⟩
  · have hcmp : Lib.compareInt (xs.length : Int) (ys.length : Int) = 1 := by rw [Lib.compareInt, if_neg (by omega), if_pos (by omega)]
    have hr := Lib.hid (show cmpS xs ys = 1 by rw [cmpS, if_neg (by omega), if_pos hl])
    clear hl H
    go_enter Try.func32, Try.ntmps32
    go_wp2_with (go_at_call 45; refine (Try.cmp_Compare_int _ _ _).mono ?_; rintro e w' ⟨rfl, rfl⟩; (try rw [hcmp]))
    go_ret
    exact ⟨by rw [hr.out]; rfl, rfl⟩
end Go.Proofs.Ytidpmbbkpclccaa
