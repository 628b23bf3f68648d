/- The document's cycles: turned, simple; how often a number stands in a row. -/
import Derived.Test.YtjijoghbcbdohaaCyPure
import Derived.Test.YtjijoghbcbdohaaOf
namespace Go.Proofs.Ytjijoghbcbdohaa
set_option linter.all false
open Go.RowKit
set_option maxRecDepth 100000

theorem cell_blk {w : World} {b o : Nat} {v : Value} (h : w.cell? ⟨b, o, none⟩ = some v) : b < w.heap.size := by
  by_cases hl : b < w.heap.size
  · exact hl
  · rw [World.cell?, Array.getElem?_eq_none (by simpa using hl)] at h; cases h
theorem tmod_nat (a b : Nat) : Int.tmod (a : Int) (b : Int) = ((a % b : Nat) : Int) := by
  rw [Int.tmod_eq_emod_of_nonneg (by omega)]; omega
set_option maxHeartbeats 4000000 in
theorem Turn26_is {W : World} {A : Option Addr} {c : Nat} {xs : List Int} (h : IntsAt W A xs) (hsm : xs.length ≤ 1000000) :
    Calls Try.prog 11 #[.slice A xs.length c] W (Rets (IListPost W (turnL xs))) := by
  obtain ⟨i0, hi, hz0, hz1, hz2⟩ := info_parts info_int
  have HX := Lib.hid h
  have HTL := Lib.hid (turnL_len xs)
  clear h
  go_enter Try.func11, Try.ntmps11
  go_wp2_with fail
  go_loopw [3, 4] (fun v3 v4 wr => ∃ k : Nat, k ≤ xs.length ∧ v4 = .int .i64 k ∧ v3 = .int .i64 (minIdx xs k : Nat) ∧ Fr0 W wr) (fun _ v4 _ => xs.length - (intOf v4).toNat)
  case atStart => exact ⟨0, by omega, rfl, rfl, Fr.refl _ _⟩
  case round =>
    obtain ⟨k, hk, rfl, rfl, hf⟩ := hrel
    have hmk := minIdx_le xs k
    by_cases hlt : k < xs.length
    · obtain ⟨b, o, rfl, hc⟩ := (HX.out.fr0 hf).at_ hlt
      obtain ⟨b2, o2, e2, hc2⟩ := (HX.out.fr0 hf).at_ (k := minIdx xs k) (by omega)
      cases e2
      have hlt' : (k : Int) < (xs.length : Int) := by omega
      have HM := Lib.hid (show minIdx xs (k + 1) = if xs.getD k 0 < xs.getD (minIdx xs k) 0 then k else minIdx xs k from rfl)
      have hmk' : minIdx xs k < xs.length := by omega
      generalize xs.getD k 0 = x at hc HM
      generalize xs.getD (minIdx xs k) 0 = y at hc2 HM
      generalize minIdx xs k = m at hc2 HM hmk hmk'
      have hm' : (m : Int) < (xs.length : Int) := by omega
      have hbk := cell_blk hc
      by_cases hxy : x < y
      · have HM2 : Hid (minIdx xs (k + 1) = k) := Lib.hid (by rw [HM.out, if_pos hxy])
        go_wp2_with fail
        go_region
        go_wp2_with fail
        go_roundw
        case rel => exact ⟨k + 1, by omega, by go_num, by rw [HM2.out], by first | exact hf.drew | exact hf.trans0 (fr_drewN _ _ _)⟩
        case measure => simp [intOf]; omega
      · have HM2 : Hid (minIdx xs (k + 1) = m) := Lib.hid (by rw [HM.out, if_neg hxy])
        go_wp2_with fail
        go_region
        go_wp2_with fail
        go_roundw
        case rel => exact ⟨k + 1, by omega, by go_num, by rw [HM2.out], by first | exact hf.drew | exact hf.trans0 (fr_drewN _ _ _)⟩
        case measure => simp [intOf]; omega
    · have hke : k = xs.length := by omega
      have HS := Lib.hid (fun j (hj : j < xs.length) => turnL_snoc hj)
      rw [hke] at hmk
      subst hke
      generalize minIdx xs xs.length = b at hmk HS
      go_wp2_with fail
      rename World => wo
      go_loopw [5, 6] (fun v5 v6 w2 => ∃ k : Nat, k ≤ xs.length ∧ v6 = .int .i64 k ∧ Fr0 W w2 ∧ Hid (w2.ownsRow W.heap.size 3 1 v5 k (intsI ((turnL xs).take k)))) (fun _ v6 _ => xs.length - (intOf v6).toNat)
      case atStart => exact ⟨0, by omega, rfl, hf, Lib.hid (own_nil _ _ _ _)⟩
      case round =>
        obtain ⟨k, hk, rfl, hf, HO⟩ := hrel
        by_cases hlt : k < xs.length
        · have hlt' : (k : Int) < (xs.length : Int) := by omega
          have hml : (b + k) % xs.length < xs.length := Nat.mod_lt _ (by omega)
          obtain ⟨q, o, rfl, hc⟩ := (HX.out.fr0 hf).at_ hml
          have HT := Lib.hid (HS.out k hlt)
          have hmod := tmod_nat (b + k) xs.length
          rw [show ((b + k : Nat) : Int) = (b : Int) + (k : Int) by omega] at hmod
          have hn0 : ¬ (xs.length : Int) = 0 := by omega
          have hbI : (b : Int) ≤ 1000000 := by omega
          have hsz := hf.size
          generalize (b + k) % xs.length = m at hc HT hmod hml
          have hm' : (m : Int) < (xs.length : Int) := by omega
          generalize xs.getD m 0 = y at hc HT
          go_wp2_with (at_builtin; refine wpList_append_own _ rfl _ _ 22 rfl W.heap.size 3 i0 (.int .i64 0) 1 8 Try.underlying22 hi hz0 hz1 hz2 rfl (by decide) _ _ _ rfl (own_fr0 HO.out (fr_alloc _ _ _)) _ 1 1 [.int .i64 y] rfl rfl (cell_one_new _ _ _) (by simp [Value.oneCell']) (by unfold maxLen; omega) (by omega) (by simp; omega) ?_; intro v' w2 hown' hgrow _)
          go_roundw
          case rel =>
            rw [intsI_snoc, ← HT.out] at hown'
            exact ⟨k + 1, by omega, by go_num, (hf.alloc _).trans (append_fr0 (own_fr0 HO.out (fr_alloc _ _ _)) hgrow) (fun j hj e => own_old HO.out hj e), Lib.hid hown'⟩
          case measure => simp [intOf]; omega
        · have hke : k = xs.length := by omega
          have ho := HO.out
          rw [hke, List.take_of_length_le (by rw [HTL.out]; exact Nat.le_refl _), ← HTL.out] at ho
          have HO2 := Lib.hid ho
          clear ho
          have hge : ¬ (k : Int) < (xs.length : Int) := by omega
          go_wp2_with fail
          go_ret
          exact ⟨_, rfl, hf, HO2.out⟩
theorem count26_is {W : World} {A : Option Addr} {c : Nat} {xs : List Int} (h : IntsAt W A xs) (hsm : xs.length ≤ 1000000) (x : Int) :
    Calls Try.prog 34 #[.slice A xs.length c, .int .i64 x] W fun e w' => e = .returned (.int .i64 (xs.countP (· == x) : Nat)) ∧ W = w' := by
  have HX := Lib.hid h
  clear h
  go_enter Try.func34, Try.ntmps34
  go_wp2_with fail
  go_loopw [5, 6] (fun v5 v6 wr => ∃ (k n : Nat), k ≤ xs.length ∧ n ≤ k ∧ v6 = .int .i64 k ∧ v5 = .int .i64 n ∧ Hid (n = (xs.take k).countP (· == x)) ∧ W = wr) (fun _ v6 _ => xs.length - (intOf v6).toNat)
  case atStart => exact ⟨0, 0, by omega, by omega, rfl, rfl, Lib.hid (by simp), rfl⟩
  case round =>
    obtain ⟨k, n, hk, hnk, rfl, rfl, HN, rfl⟩ := hrel
    by_cases hlt : k < xs.length
    · obtain ⟨b, o, rfl, hc⟩ := HX.out.at_ hlt
      have hlt' : (k : Int) < (xs.length : Int) := by omega
      have HT := Lib.hid (take_succ_I xs k hlt)
      generalize xs.getD k 0 = y at hc HT
      by_cases hy : y = x
      · have hb : (y == x) = true := by simp [hy]
        have HN2 : Hid (n + 1 = (xs.take (k + 1)).countP (· == x)) := Lib.hid (by rw [HT.out, List.countP_append, ← HN.out]; simp [hb])
        clear hy
        go_wp2_with fail
        go_roundw
        case rel => exact ⟨k + 1, n + 1, by omega, by omega, by go_num, by go_num, HN2, by first | rfl | trivial⟩
        case measure => simp [intOf]; omega
      · have hb : (y == x) = false := by simp [hy]
        have HN2 : Hid (n = (xs.take (k + 1)).countP (· == x)) := Lib.hid (by rw [HT.out, List.countP_append, ← HN.out]; simp [hb])
        clear hy
        go_wp2_with fail
        go_roundw
        case rel => exact ⟨k + 1, n, by omega, by omega, by go_num, rfl, HN2, by first | rfl | trivial⟩
        case measure => simp [intOf]; omega
    · have hke : k = xs.length := by omega
      have hn := HN.out
      rw [hke, List.take_of_length_le (Nat.le_refl _)] at hn
      have HN2 := Lib.hid hn
      have hge : ¬ (k : Int) < (xs.length : Int) := by omega
      clear hn
      go_wp2_with fail
      go_ret
      exact ⟨by rw [← HN2.out]; rfl, rfl⟩
/-- Simple: more than one, and none twice. -/
def simpleC (c : List Int) : Bool := decide (1 < c.length) && decide ((ofI c).length = c.length)
theorem Simple26_is {W : World} {A : Option Addr} {c : Nat} {xs : List Int} (h : IntsAt W A xs) (hsm : xs.length ≤ 1000000) :
    Calls Try.prog 13 #[.slice A xs.length c] W (Rets (SamePost (simpleC xs) W)) := by
  have HO := Lib.hid (Of_is (c := c) h (by omega))
  clear h
  by_cases h1 : 1 < xs.length
  · have h1' : (1 : Int) < (xs.length : Int) := by omega
    by_cases h2 : (ofI xs).length = xs.length
    · have hr : simpleC xs = true := by simp [simpleC, h1, h2]
      rw [hr]
      have h3 : ((((ofI xs).length : Nat) : Int) == (xs.length : Int)) = true := by rw [h2]; simp
      have h4 : decide (((ofI xs).length : Int) = (xs.length : Int)) = true := by rw [h2]; simp
      clear h2 hr
      generalize ofI xs = L at HO h3 h4
      go_enter Try.func13, Try.ntmps13
      go_wp2_with (go_at_call 25; refine (HO.out).mono ?_; rintro e w1 ⟨v1, rfl, hf1, ho1⟩; obtain ⟨A1, c1, rfl⟩ := own_form ho1)
      go_ret
      exact ⟨_, rfl, rfl, hf1⟩
    · have hr : simpleC xs = false := by simp [simpleC, h1, h2]
      rw [hr]
      have h3 : ((((ofI xs).length : Nat) : Int) == (xs.length : Int)) = false := by rw [beq_eq_false_iff_ne]; omega
      clear h2 hr
      generalize ofI xs = L at HO h3
      go_enter Try.func13, Try.ntmps13
      go_wp2_with (go_at_call 25; refine (HO.out).mono ?_; rintro e w1 ⟨v1, rfl, hf1, ho1⟩; obtain ⟨A1, c1, rfl⟩ := own_form ho1)
      go_ret
      exact ⟨_, rfl, rfl, hf1⟩
  · have h1' : ¬ (1 : Int) < (xs.length : Int) := by omega
    have hr : simpleC xs = false := by simp [simpleC, h1]
    rw [hr]
    clear hr h1
    go_enter Try.func13, Try.ntmps13
    go_wp2_with fail
    go_ret
    exact ⟨_, rfl, rfl, Fr.refl _ _⟩
end Go.Proofs.Ytjijoghbcbdohaa
