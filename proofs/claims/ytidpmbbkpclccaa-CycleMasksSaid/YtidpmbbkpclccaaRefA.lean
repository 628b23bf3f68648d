/- The document's small answers: are two rows alike; is a number in a row; may a graph be. -/
import Derived.Test.YtidpmbbkpclccaaInts
namespace Go.Proofs.Ytidpmbbkpclccaa
set_option linter.all false
open Go.RowKit
set_option maxRecDepth 100000

theorem Same_is {W : World} {A B : Option Addr} {c d : Nat} {xs ys : List Int} (h : IntsAt W A xs) (h2 : IntsAt W B ys) :
    Calls Try.prog 10 #[.slice A xs.length c, .slice B ys.length d] W (Rets (SamePost (decide (xs = ys)) W)) := by
  have hlen := h.1
  by_cases hl : xs.length = ys.length
  · have hb : ((xs.length : Int) == (ys.length : Int)) = true := by simp [hl]
    go_enter Try.func10, Try.ntmps10
    go_wp2_with fail
    go_loopw [5] (fun v wr => ∃ k : Nat, k ≤ xs.length ∧ v = .int .i64 k ∧ Hid (∀ i, i < k → xs.getD i 0 = ys.getD i 0) ∧ Fr0 W wr) (fun v _ => xs.length - (intOf v).toNat)
    case atStart => exact ⟨0, by omega, rfl, Lib.hid (fun i hi => by omega), Fr.refl _ _⟩
    case round =>
      obtain ⟨k, hk, rfl, HN, hf⟩ := hrel
      by_cases hlt : k < xs.length
      · obtain ⟨b, o, rfl, hc⟩ := h.at_ hlt
        obtain ⟨b2, o2, rfl, hc2⟩ := h2.at_ (show k < ys.length by omega)
        replace hc := hf.cell hc (fun x => x)
        replace hc2 := hf.cell hc2 (fun x => x)
        have hkl : k < ys.length := by omega
        generalize hx : xs.getD k 0 = x at hc
        generalize hy : ys.getD k 0 = y at hc2
        have HX := Lib.hid hx
        have HY := Lib.hid hy
        have HL := Lib.hid hl
        clear hx hy
        by_cases e : x = y
        · have hb2 : (x == y) = true := by simpa using e
          have HE := Lib.hid e
          clear e
          go_wp2_with fail
          go_quiet (fail)
          go_wp2_with fail
          go_roundw
          case rel =>
            refine ⟨k + 1, by omega, by go_num, Lib.hid (fun i hi => ?_), hf.drewN _⟩
            by_cases e2 : i = k
            · rw [e2, HX.out, HY.out, HE.out]
            · exact HN.out i (by omega)
          case measure => simp [intOf]; omega
        · have hb2 : (x == y) = false := by simpa using e
          have hd : decide (xs = ys) = false := by
            rw [decide_eq_false_iff_not]; rintro rfl; exact e (HX.out.symm.trans HY.out)
          go_wp2_with fail
          go_quiet (fail)
          go_wp2_with fail
          go_ret
          exact ⟨_, rfl, by rw [hd]; rfl, hf.drewN _⟩
      · have hd : decide (xs = ys) = true := by
          rw [decide_eq_true_iff]
          apply List.ext_getElem hl
          intro i h1 h3
          have := HN.out i (by omega)
          rwa [List.getD_eq_getElem?_getD, List.getD_eq_getElem?_getD, List.getElem?_eq_getElem h1, List.getElem?_eq_getElem h3] at this
        go_wp2_with fail
        go_ret
        exact ⟨_, rfl, by rw [hd]; rfl, hf⟩
  · have hb : ((xs.length : Int) == (ys.length : Int)) = false := by simp; omega
    have hd : decide (xs = ys) = false := by rw [decide_eq_false_iff_not]; rintro rfl; exact hl rfl
    go_enter Try.func10, Try.ntmps10
    go_wp2_with fail
    go_ret
    exact ⟨_, rfl, by rw [hd]; rfl, Fr.refl _ _⟩
end Go.Proofs.Ytidpmbbkpclccaa
