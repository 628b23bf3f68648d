/- RefD, RefE, in one text. -/
import Derived.Test.YtdcjfpjpboafnaaDoorMasks
import Derived.Test.YtdcjfpjpboafnaaDoorRefB
namespace Go.Proofs.YtdcjfpjpboafnaaDoor
set_option linter.all false
open Go.RowKit
set_option maxRecDepth 100000

end Go.Proofs.YtdcjfpjpboafnaaDoor
namespace Go.Proofs.YtdcjfpjpboafnaaDoor
set_option linter.all false
open Go.RowKit
set_option maxRecDepth 100000

set_option maxHeartbeats 2000000 in
theorem Out21_is {W : World} {n c d : Nat} {R B : Option Addr} {Mx : Nat → Nat → Int} {ws : List Int} (h : RefG W n R Mx) (hw : IntsAt W B ws) (v m : Int) :
    Calls Tryd.prog 49 #[.agg #[.int .i64 (n : Int), .slice R n c], .int .i64 v, .slice B ws.length d, .int .i64 m] W (Rets (ListPost W ((elems n (outR n Mx v m)).filter (fun w : Nat => decide ((w : Int) ∈ ws))))) := by
  obtain ⟨i0, hi, hz0, hz1, hz2⟩ := info_parts info_int
  have hn := h.1
  have HW := Lib.hid hw
  have HO := Lib.hid (OutR_is (c := c) (h.fr0 (fr_alloc _ W (.cells #[.int .i64 (n : Int), .slice R n c] 37))) v m)
  have hlen : (elems n (outR n Mx v m)).length ≤ 1024 := Nat.le_trans (List.length_filter_le _ _) (by rw [List.length_range]; exact hn)
  generalize elems n (outR n Mx v m) = l at HO hlen ⊢
  clear h hw
  go_enter Tryd.func49, Tryd.ntmps49
  go_wp2_with (go_at_call 68; refine (HO.out).mono ?_; rintro e w1 ⟨v1, rfl, hf1, ho1⟩; obtain ⟨A1, c1, rfl⟩ := own_form ho1)
  have hF1 : Fr0 W w1 := (fr_alloc _ _ _).trans0 hf1
  have HI := Lib.hid (own_ints ho1 (by omega))
  have hs1 := hF1.size
  clear HO ho1 hf1
  go_loopw [9, 11] (fun v9 v11 wr => ∃ k : Nat, k ≤ l.length ∧ v11 = .int .i64 k ∧ Fr0 w1 wr ∧ wr.ownsRow w1.heap.size 3 1 v9 ((l.take k).filter (fun w : Nat => decide ((w : Int) ∈ ws))).length (ints ((l.take k).filter (fun w : Nat => decide ((w : Int) ∈ ws))))) (fun _ v11 _ => l.length - (intOf v11).toNat)
  case atStart => exact ⟨0, by omega, rfl, Fr.refl _ _, own_nil _ _ _ _⟩
  case round =>
    obtain ⟨k, hk, rfl, hf, ho⟩ := hrel
    have hsz := hf.size
    by_cases hlt : k < l.length
    · have hlt' : (k : Int) < (l.length : Int) := by omega
      obtain ⟨b, o, rfl, hc⟩ := HI.out.at_ (k := k) (by simpa [natI] using hlt)
      replace hc := hf.cell hc (fun x => x)
      have hgd : (natI l).getD k 0 = ((l.getD k 0 : Nat) : Int) := by
        simp [natI, List.getD_eq_getElem?_getD, List.getElem?_eq_getElem hlt]
      rw [hgd] at hc
      have htk := take_snoc_n l k hlt
      have hfl : ((l.take k).filter (fun w : Nat => decide ((w : Int) ∈ ws))).length ≤ k := Nat.le_trans (List.length_filter_le _ _) (by rw [List.length_take]; omega)
      generalize l.getD k 0 = x at hc htk
      have HH := Lib.hid (Has5_is (c := d) ((HW.out.grow (Fr0.grow hF1 0)).grow (Fr0.grow hf 0)) (x : Int))
      have hflt : (l.take (k + 1)).filter (fun w : Nat => decide ((w : Int) ∈ ws)) = (l.take k).filter (fun w : Nat => decide ((w : Int) ∈ ws)) ++ (if decide ((x : Int) ∈ ws) = true then [x] else []) := by
        rw [htk, List.filter_append, List.filter_cons, List.filter_nil]
      generalize (l.take k).filter (fun w : Nat => decide ((w : Int) ∈ ws)) = acc at ho hfl hflt
      obtain ⟨A3, c3, e3⟩ := own_form ho
      subst e3
      clear hgd htk
      cases hm : decide ((x : Int) ∈ ws) with
      | false =>
        rw [hm] at HH hflt
        have HF := Lib.hid hflt
        clear hflt
        go_wp2_with (go_at_call 20; refine (HH.out).mono ?_; rintro e w' ⟨rfl, rfl⟩)
        go_roundw
        case rel => exact ⟨k + 1, by omega, by go_num, hf, by rw [HF.out]; simpa using ho⟩
        case measure => simp [intOf]; omega
      | true =>
        rw [hm] at HH hflt
        have HF := Lib.hid hflt
        clear hflt
        go_wp2_with (first | (go_at_call 20; refine (HH.out).mono ?_; rintro e w' ⟨rfl, rfl⟩) | (at_builtin; refine wpList_append_own _ rfl _ _ 33 rfl w1.heap.size 3 i0 (.int .i64 0) 1 8 Tryd.underlying33 hi hz0 hz1 hz2 rfl (by decide) _ _ _ rfl (own_fr0 ho (fr_alloc _ _ _)) _ 1 1 [.int .i64 (x : Int)] rfl rfl (cell_one_new _ _ _) (by simp [Value.oneCell']) (by unfold maxLen; omega) (by omega) (by simp; omega) ?_; intro v' w2 hown' hgrow _))
        go_roundw
        case rel =>
          rw [ints_snoc] at hown'
          exact ⟨k + 1, by omega, by go_num, (hf.alloc _).trans (append_fr0 (own_fr0 ho (fr_alloc _ _ _)) hgrow) (fun j hj e => own_old ho hj e), by rw [HF.out]; simpa using hown'⟩
        case measure => simp [intOf]; omega
    · obtain ⟨A3, c3, e3⟩ := own_form ho
      subst e3
      go_wp2_with fail
      go_ret
      rw [List.take_of_length_le (by omega)] at ho
      exact ⟨_, by rw [List.take_of_length_le (by omega)]; rfl, hF1.trans0 hf, ho.mono hs1⟩
end Go.Proofs.YtdcjfpjpboafnaaDoor
