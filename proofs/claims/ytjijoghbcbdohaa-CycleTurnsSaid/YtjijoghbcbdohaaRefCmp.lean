/- The document's order of rows of whole numbers. -/
import Derived.Test.YtjijoghbcbdohaaCmpPure
import Derived.Test.YtjijoghbcbdohaaRefA
namespace Go.Proofs.Ytjijoghbcbdohaa
set_option linter.all false
open Go.RowKit
set_option maxRecDepth 100000

theorem ret_int {k : IntKind} {a b : Int} (h : a = b) : Ending.returned (.int k a) = .returned (.int k b) := by rw [h]
set_option maxHeartbeats 4000000 in
theorem Compare5_is {W : World} {A B : Option Addr} {c d : Nat} {xs ys : List Int} (h1 : IntsAt W A xs) (h2 : IntsAt W B ys) (hsm : xs.length ≤ 10000000) :
    Calls Try.prog 27 #[.slice A xs.length c, .slice B ys.length d] W fun e w' => e = .returned (.int .i64 (cmpS xs ys)) ∧ Fr0 W w' := by
  have H1 := Lib.hid h1
  have H2 := Lib.hid h2
  clear h1 h2
  rcases Nat.lt_trichotomy xs.length ys.length with hl | hl | hl
  · have hr := Lib.hid (show cmpS xs ys = -1 by rw [cmpS, if_pos hl])
    have hl' : (xs.length : Int) < (ys.length : Int) := by omega
    go_enter Try.func27, Try.ntmps27
    go_wp2
    go_ret
    exact ⟨by rw [hr.out]; rfl, Fr.refl _ _⟩
  · have hr := Lib.hid (show cmpS xs ys = lexS xs ys by rw [cmpS, if_neg (by omega), if_neg (by omega)])
    have HL := Lib.hid hl
    have hlI : (xs.length : Int) ≤ 10000000 := by omega
    rw [← hl]
    clear hl
    go_enter Try.func27, Try.ntmps27
    go_wp2
    go_loopw [5] (fun v5 wr => ∃ i : Nat, i ≤ xs.length ∧ v5 = .int .i64 i ∧ Hid (lexS xs ys = lexS (xs.drop i) (ys.drop i)) ∧ Fr0 W wr) (fun v5 _ => xs.length - (intOf v5).toNat)
    case atStart => exact ⟨0, by omega, rfl, Lib.hid (by simp), Fr.refl _ _⟩
    case round =>
      obtain ⟨i, hi, rfl, HX, hf⟩ := hrel
      by_cases hlt : i < xs.length
      · have hlt' : (i : Int) < (xs.length : Int) := by omega
        obtain ⟨b, o, rfl, hc1⟩ := H1.out.at_ hlt
        obtain ⟨b', o', rfl, hc2⟩ := H2.out.at_ (k := i) (by have := HL.out; omega)
        have hc1 := hf.cell hc1 (fun x => x)
        have hc2 := hf.cell hc2 (fun x => x)
        have hd := lexS_drop hlt (show i < ys.length by have := HL.out; omega)
        generalize xs.getD i 0 = x at hc1 hd
        generalize ys.getD i 0 = y at hc2 hd
        have HD := Lib.hid (HX.out.trans hd)
        clear hd HX
        rcases Int.lt_trichotomy x y with hxy | rfl | hxy
        · have HR := Lib.hid (show lexS xs ys = -1 by rw [HD.out, if_pos hxy])
          go_wp2_with fail
          go_quiet (fail)
          go_wp2_with fail
          go_ret
          exact ⟨by rw [hr.out, HR.out]; rfl, by first | exact hf.drewN _ | exact (hf.drewN _).drewN _⟩
        · have HR := Lib.hid (show lexS xs ys = lexS (xs.drop (i + 1)) (ys.drop (i + 1)) by rw [HD.out, if_neg (by omega), if_neg (by omega)])
          clear HD
          go_wp2_with fail
          go_quiet (fail)
          go_wp2_with fail
          go_quiet (fail)
          go_wp2_with fail
          go_roundw
          case rel => exact ⟨i + 1, by omega, by go_num, HR, by first | exact hf.drewN _ | exact (hf.drewN _).drewN _⟩
          case measure => simp [intOf]; omega
        · have HR := Lib.hid (show lexS xs ys = 1 by rw [HD.out, if_neg (by omega), if_pos hxy])
          have hnl : ¬ x < y := by omega
          go_wp2_with fail
          go_quiet (fail)
          go_wp2_with fail
          go_quiet (fail)
          go_wp2_with fail
          go_ret
          exact ⟨by rw [hr.out, HR.out]; rfl, by first | exact hf.drewN _ | exact (hf.drewN _).drewN _⟩
      · have hie : i = xs.length := by omega
        subst hie
        have HR := Lib.hid (show lexS xs ys = 0 by rw [HX.out, List.drop_length]; simp [lexS])
        clear HX
        go_wp2
        go_ret
        exact ⟨by rw [hr.out, HR.out]; rfl, hf⟩
  · have hr := Lib.hid (show cmpS xs ys = 1 by rw [cmpS, if_neg (by omega), if_pos hl])
    have hl' : (ys.length : Int) < (xs.length : Int) := by omega
    have hl2 : ¬ (xs.length : Int) < (ys.length : Int) := by omega
    go_enter Try.func27, Try.ntmps27
    go_wp2
    go_ret
    exact ⟨by rw [hr.out]; rfl, Fr.refl _ _⟩
end Go.Proofs.Ytjijoghbcbdohaa
