/- A set is gone through, rising, as far as it is wanted, from its beginning, or from any number on: the law's walk. -/
import Derived.Test.YtinjioheimpoeaaWorks05
import Derived.Test.YtinjioheimpoeaaColN
namespace Go.Proofs.Ytinjioheimpoeaa
set_option linter.all false
open Go.RowKit Go.Shelf
attribute [local go_sem] Oper.semAt_some run_eql_func
set_option maxRecDepth 100000

theorem count_at : ∀ {zs : List Int}, zs.Pairwise (· < ·) → ∀ (x : Int) (j : Nat), j < zs.length → (zs.getD j 0 < x ↔ j < zs.countP (· < x))
  | [], _, _, j, h => by simp at h
  | z :: zs, hp, x, j, h => by
    have hp' := List.pairwise_cons.1 hp
    rw [List.countP_cons]
    by_cases hz : z < x
    · rw [if_pos (by simpa using hz)]
      cases j with
      | zero => simp [hz]
      | succ j =>
        have := count_at hp'.2 x j (by simpa using h)
        simp only [List.getD_cons_succ]
        rw [this]; omega
    · rw [if_neg (by simpa using hz)]
      have h0 : zs.countP (· < x) = 0 := by
        rw [List.countP_eq_zero]
        intro a ha
        have := hp'.1 a ha
        simp; omega
      rw [h0]
      cases j with
      | zero => simp [hz]
      | succ j =>
        simp only [List.getD_cons_succ]
        have hj : j < zs.length := by simpa using h
        have : z < zs.getD j 0 := hp'.1 _ (by rw [List.getD_eq_getElem?_getD, List.getElem?_eq_getElem hj]; exact List.getElem_mem hj)
        omega
set_option maxHeartbeats 16000000 in
theorem SortedGoes_is {W : World} {x most : Int} {A : Option Addr} {c : Nat} {xs : List Int} {all : Bool} (hx : IntsAt W A xs) (hp : Plain A xs.length c) (hmo : (Lit.int .u8 most).wf = true) :
    Calls Try.prog 7 #[.slice A xs.length c, .int .i64 x, .int .u8 most, .bool all] W (Rets (SamePost true W)) := by
  obtain ⟨hm0, hm1⟩ : 0 ≤ most ∧ most ≤ 255 := by
    have := hmo
    simp [Lit.wf, IntKind.min, IntKind.max, IntKind.signed, IntKind.bits] at this
    omega
  obtain ⟨mx, rfl⟩ : ∃ mx : Nat, most = mx := ⟨most.toNat, by omega⟩
  clear hmo
  have hf0 : Fr0 W (W.alloc (.cells #[.int .u8 (mx : Int)] 5)) := fr_alloc _ _ _
  obtain ⟨w0, hw0⟩ : ∃ w0, W.alloc (.cells #[.int .u8 (mx : Int)] 5) = w0 := ⟨_, rfl⟩
  rw [hw0] at hf0
  have hb0 : Box w0 W.heap.size 5 (.int .u8 (mx : Int)) := hw0 ▸ Box.new _ _ _
  have hs0 : w0.heap.size = W.heap.size + 1 := by rw [← hw0]; simp
  have HX := Lib.hid (hx.fr0 hf0)
  refine (callsIn_wide (n := 0)).1 (callsIn_of_wp_marks Try.func7 rfl trivial ?_)
  simp only [Try.ntmps7, List.size_toArray, List.length_cons, List.length_nil, Nat.reduceAdd, Nat.reduceSub, Array.replicate_succ, Array.replicate_zero, List.push_toArray, List.append_toArray, List.nil_append, List.cons_append]
  by_cases h60 : xs.length > 60
  · have h60' : (xs.length : Int) > 60 := by omega
    clear hx hp hb0 HX
    gi_wp2_with (gi_at_call 14; (try rw [hw0]); refine (callsIn_wide.2 (works05_is _)).mono ?_; rintro e w' ⟨_, rfl, rfl, hf1⟩)
    refine leaveC0 (results_tmp (t := 8) rfl _ _ _) ⟨_, rfl, rfl, hf0.trans0 hf1⟩
  · have h60' : ¬ (xs.length : Int) > 60 := by omega
    have hol := len_ofI xs
    have HSO := Lib.hid (fun w' (f : Fr0 w0 w') => SOf_is (HX.out.fr0 f) hp (by omega))
    have HRO := Lib.hid (fun w' (f : Fr0 w0 w') => Of_is (c := c) (HX.out.fr0 f) (by omega))
    have hri := Lib.hid (rise_ofI xs)
    clear hx hp
    generalize ofI xs = zs at hol HSO HRO hri
    obtain ⟨i0, hi, hz0, hz1, hz2⟩ := info_parts info_int
    have hcnt := Lib.hid (count_at hri.out x)
    have hcl : zs.countP (· < x) ≤ zs.length := List.countP_le_length
    obtain ⟨q, hq⟩ : ∃ q, zs.countP (· < x) = q := ⟨_, rfl⟩
    have HSF := Lib.hid (fun (W : World) (A : Option Addr) (c : Nat) (h : SetAt W A c zs) => hq ▸ SFrom_is h x)
    rw [hq] at hcnt hcl
    clear hq
    rcases all with _ | _
    focus
      gi_wp2_with (first
        | (gi_at_call 35; refine (callsIn_wide.2 (HSF.out _ _ _ (hS2.fr0 (fr_alloc _ _ _)))).mono ?_; rintro e w3 ⟨kI, A', c', rfl, hf3, hK⟩; have hF3 : Fr0 w0 w3 := (hF2.alloc _).trans0 hf3)
        | (gi_at_call 15; refine (callsIn_wide.2 (HSO.out _ hf1)).mono ?_; rintro e w2 ⟨_, rfl, A2, c2, rfl, hf2, hS2, _⟩; have hF2 := hf1.trans0 hf2; have hb2 := Box.new w2 25 (.slice A2 zs.length c2))
        | (gi_at_call 14; (try rw [hw0]); refine (callsIn_wide.2 (works05_is _)).mono ?_; rintro e w1 ⟨_, rfl, rfl, hf1⟩))
      obtain ⟨L, hL⟩ : ∃ L, zs.drop q = L := ⟨_, rfl⟩
      rw [hL] at hK
      have HLL := Lib.hid (show L = zs.drop q from hL.symm)
      obtain ⟨qq, hqq⟩ : ∃ qq, q = qq := ⟨_, rfl⟩
      have HQQ : Hid (qq = 0 ∨ qq = q) := Lib.hid (.inr hqq.symm)
      have HQF : Hid (qq = q) := Lib.hid hqq.symm
      rw [hqq] at HLL
      clear hqq
      have hLl : L.length ≤ zs.length := by rw [← hL, List.length_drop]; omega
      clear hL
      generalize w3 = wI at *
      have hFI := hF3
      have hsp := (SAll1_is kI A' c' L (by omega)).mono (K' := fun W' => Fr0 wI W') (fun W' f => hK.grow (Fr0.grow f 0))
      clear hf1 hf2 hf3 hF2 hF3 hS2 hb2 hK
    rotate_left
    focus
      gi_wp2_with (first
        | (gi_at_call 36; refine (callsIn_wide.2 (SAll_is _ _ _ _)).mono ?_; rintro e w' ⟨rfl, rfl⟩)
        | (gi_at_call 35; refine (callsIn_wide.2 (HSF.out _ _ _ (hS2.fr0 (fr_alloc _ _ _)))).mono ?_; rintro e w3 ⟨kI, A', c', rfl, hf3, hK⟩; have hF3 : Fr0 w0 w3 := (hF2.alloc _).trans0 hf3; have hb3 := hb2.fr0 hf3; have hc3 := hb3.cell; have hlt3 := hb3.lt)
        | (gi_at_call 15; refine (callsIn_wide.2 (HSO.out _ hf1)).mono ?_; rintro e w2 ⟨_, rfl, A2, c2, rfl, hf2, hS2, _⟩; have hF2 := hf1.trans0 hf2; have hb2 := Box.new w2 25 (.slice A2 zs.length c2))
        | (gi_at_call 14; (try rw [hw0]); refine (callsIn_wide.2 (works05_is _)).mono ?_; rintro e w1 ⟨_, rfl, rfl, hf1⟩))
      obtain ⟨L, hL⟩ : ∃ L, zs = L := ⟨_, rfl⟩
      obtain ⟨qq, hqq⟩ : ∃ qq, (0 : Nat) = qq := ⟨_, rfl⟩
      have HLL := Lib.hid (show L = zs.drop qq by rw [← hqq, ← hL]; rfl)
      have HQ0 : Hid (qq = 0) := Lib.hid hqq.symm
      clear hqq
      have hLl : L.length ≤ zs.length := by rw [← hL]; omega
      obtain ⟨wI, hwI⟩ : ∃ wI, w3.alloc (.cells #[.slice A2 zs.length c2] 25) = wI := ⟨_, rfl⟩
      have hFI : Fr0 w0 wI := hwI ▸ hF3.alloc _
      have hK2 : setK w3.heap.size A2 c2 L wI := by
        rw [← hL, ← hwI]
        exact ⟨Box.new _ _ _, (hS2.ints.fr0 (((fr_alloc _ _ _).trans0 hf3).alloc _))⟩
      have hsI : w3.heap.size + 1 = wI.heap.size := by rw [← hwI]; simp
      rw [hwI, hsI]
      have hsp := (SAll1_is w3.heap.size A2 c2 L (by omega)).mono (K' := fun W' => Fr0 wI W') (fun W' f => hK2.grow (Fr0.grow f 0))
      clear hL hwI hK hK2 hsI hf1 hf2 hf3 hF2 hF3 hS2 hb2 hb3 hc3 hlt3
    all_goals
      obtain ⟨wA, hwA⟩ : ∃ wA, wI.alloc (.cells #[.slice none 0 0] 22) = wA := ⟨_, rfl⟩
      have hbA : Box wA wI.heap.size 22 (.slice none 0 0) := hwA ▸ Box.new _ _ _
      have hfA : Fr0 wI wA := hwA ▸ fr_alloc _ _ _
      have hsA : wA.heap.size = wI.heap.size + 1 := by rw [← hwA]; simp
      have hs0I := hFI.size
      rw [hwA]
      clear hwA
      refine range_law (gf := 74) (lb := _) rfl (enters_of Try.func74 (by kernel_rfl) rfl)
        hsp (fun _ => rfl) (ColN wI mx) (fun c pre W => c = .exit 0 ∧ ColX wI mx pre W) (fun pre W h => h.1) ?stab ?stabx ?start ?round ?_ ?_
      case stab =>
        rintro pre W1 W2 ⟨q1, q2, v, q3, q4⟩ hG
        exact ⟨Fr.andGrow q1 hG (by omega), q2, v, q3.grow hG, own_grow q4 hG⟩
      case stabx =>
        rintro c pre W1 W2 ⟨q0, q1, v, q3, q5, q4⟩ hG
        exact ⟨q0, Fr.andGrow q1 hG (by omega), v, q3.grow hG, q5, own_grow q4 hG⟩
      case start => exact ⟨hfA, by simp, _, hbA, own_nil _ _ _ _⟩
      case round =>
        intro y pre x Wx hy hI hpre
        gi_wp2
        refine ⟨ND.refl _ _, fun W2 hG => ?_⟩
        obtain ⟨h1, h2, v, h3, h4⟩ := hI
        replace h1 := Fr.andGrow h1 hG (by omega)
        replace h3 := h3.grow hG
        replace h4 := own_grow h4 hG
        obtain ⟨A4, c4, rfl⟩ := own_form h4
        have h3c := h3.cell
        have h3f := h3.frozen
        have hbm := (hb0.fr0 (hFI.trans0 h1)).cell
        have hs1 := h1.size
        have hwr : IntKind.i64.wrap (mx : Int) = (mx : Int) := by rw [IntKind.wrap_i64]; omega
        by_cases hmx : pre.length = mx
        · have hmx' : (pre.length : Int) = (mx : Int) := by omega
          gi_wp2
          refine ⟨ND.refl _ _, rfl, h1, _, h3, by simp; omega, ?_⟩
          have e1 : (pre ++ [x]).take mx = pre := by rw [← hmx]; simp
          rw [e1, ← hmx]
          exact h4
        · have hmx' : ¬ (pre.length : Int) = (mx : Int) := by omega
          gi_wp2_with (gi_at_builtin; refine wpListIn_append_own _ rfl _ _ 22 rfl wI.heap.size 3 i0 (.int .i64 0) 1 8 Try.underlying22 hi hz0 hz1 hz2 rfl (by decide) _ _ _ rfl (h4.alloc _) ⟨W2.heap.size, 0, none⟩ 1 1 [.int .i64 x] rfl rfl (cell_one_new _ _ _) (by simp [Value.oneCell']) (by unfold maxLen; omega) (by omega) (by simp; omega) ?_; intro v' w1' hown' hgrow _; obtain ⟨g', cap', rfl⟩ := ownsRow_succ hown'; obtain ⟨c1, c2, c3, c4'⟩ := collect h3 (by decide) h4 hown' hgrow; have c1c := c1.cell; have c1f := c1.frozen)
          have hno : ∀ j, j < wI.heap.size → ¬ (j = wI.heap.size ∨ (Value.slice A4 pre.length c4).ownBlock = some j) := fun j hj h => h.elim (fun e => by omega) (fun e => own_old h4 hj e)
          exact ⟨c4'.ND _, Fr.trans h1 c4' hno, by simp; omega, _, c2, by simpa [intsI] using c3⟩
      focus
        intro D Wd hD hI hk2
        obtain ⟨h1, h2, v, h3, h4⟩ := hI
        have htk : L = L.take mx := (List.take_of_length_le h2).symm
        rw [htk] at h4
        have hord : (L.take mx).length = min L.length mx := by rw [List.length_take]; omega
        have hX : Hid (∃ v, Box Wd wI.heap.size 22 v ∧ Wd.ownsRow wI.heap.size 3 1 v (L.take mx).length (intsI (L.take mx))) := Lib.hid ⟨v, h3, h4⟩
        clear h2 h3 h4 htk
      rotate_left
      focus
        rintro D cc pre Wd hD hpre ⟨rfl, hX⟩ hk2
        obtain ⟨h1, v, h3, hlt, h4⟩ := hX
        obtain ⟨rest, hrest⟩ := hpre
        have htk : pre.take mx = L.take mx := by rw [← hrest, List.take_append_of_le_length (by omega)]
        have hll : mx < L.length := by rw [← hrest]; simp; omega
        have hord : (L.take mx).length = min L.length mx := by rw [List.length_take]; omega
        rw [htk] at h4
        have h5 : Wd.ownsRow wI.heap.size 3 1 v (L.take mx).length (intsI (L.take mx)) := by rw [show (L.take mx).length = mx by rw [List.length_take]; omega]; exact h4
        have hX : Hid (∃ v, Box Wd wI.heap.size 22 v ∧ Wd.ownsRow wI.heap.size 3 1 v (L.take mx).length (intsI (L.take mx))) := Lib.hid ⟨v, h3, h5⟩
        clear hlt h3 h4 h5 htk hll hrest
      all_goals
        obtain ⟨v, h3, h4⟩ := hX.out
        obtain ⟨A4, c4, rfl⟩ := own_form h4
        have h3c := h3.cell
        have hbm := (hb0.fr0 (hFI.trans0 h1)).cell
        have hwr : IntKind.i64.wrap (mx : Int) = (mx : Int) := by rw [IntKind.wrap_i64]; omega
        clear hX
        gi_wp2_with (gi_at_call 23; refine (callsIn_wide.2 (HRO.out _ (hFI.trans0 h1))).mono ?_; rintro e w10 ⟨v10, rfl, hf10, ho10⟩; obtain ⟨A10, c10, rfl⟩ := own_form ho10)
        have hc10 : zs.length ≤ c10 := own_cap ho10
        have hp10 := plain_own ho10
        have hi10 := own_intsI ho10 (by omega)
        gi_loopw [13] (fun v13 wr => ∃ (j : Nat) (zr : List Int) (A' : Option Addr) (c' : Nat), j ≤ qq ∧ Hid (zr = zs.drop j) ∧ v13 = .slice A' zr.length c' ∧ Plain A' zr.length c' ∧ zr.length ≤ c' ∧ IntsAt w10 A' zr ∧ w10 = wr) (fun v13 _ => match v13 with | .slice _ n _ => n | _ => 0)
        case atStart => exact ⟨0, zs, A10, c10, by omega, Lib.hid rfl, rfl, hp10, hc10, hi10, rfl⟩
        case round =>
          obtain ⟨j, zr, A', c', hj, HZR, rfl, hpl, hcp, hin, rfl⟩ := hrel
          by_cases hjq : j < qq
          · try (exfalso; have := HQ0.out; omega)
            all_goals
              have hqq : qq = q := by rcases HQQ.out with h | h <;> omega
              have hjz : j < zs.length := by omega
              have hzl : zr.length = zs.length - j := by rw [HZR.out, List.length_drop]
              have hpos : (0 : Int) < (zr.length : Int) := by omega
              have hhd : zr.getD 0 0 < x := by
                have := (hcnt.out j hjz).2 (by omega)
                rw [HZR.out, List.getD_eq_getElem?_getD, List.getElem?_drop]
                rwa [List.getD_eq_getElem?_getD] at this
              obtain ⟨b, o, rfl, hc⟩ := hin.at_ (k := 0) (by omega)
              rw [Nat.add_zero] at hc
              obtain ⟨A2, c2, hsl, hp2, hc2, hi2⟩ := slice_tail (i := 1) hpl hcp (by omega)
              have hsl' : ∀ wx, (Instr.slice 22 (.slice (some ⟨b, o, none⟩) zr.length c') (some (.int .i64 1)) none none).run Try.prog wx = .ok (.slice A2 (zr.drop 1).length c2) wx := hsl
              have hdd : zr.drop 1 = zs.drop (j + 1) := by rw [HZR.out, List.drop_drop]
              have hl1 : (zr.drop 1).length < zr.length := by rw [List.length_drop]; omega
              have hin2 := hi2 _ hin
              generalize zr.drop 1 = zt at hsl' hp2 hc2 hdd hl1 hin2
              generalize zr.getD 0 0 = hd at hhd hc
              clear hsl hi2 hzl
              have HDD := Lib.hid hdd
              clear hdd
              gi_wp2
              go_roundw
              case rel => exact ⟨j + 1, zt, A2, c2, by omega, HDD, rfl, hp2, hc2, hin2, by first | rfl | trivial⟩
              case measure => exact hl1
          · have hjq2 : j = qq := by omega
            have hzL : L = zr := by rw [HLL.out, HZR.out, hjq2]
            have hnlt : ∀ h0 : 0 < zr.length, qq = q → ¬ zr.getD 0 0 < x := by
              intro h0 hqq
              have hzl : zr.length = zs.length - j := by rw [HZR.out, List.length_drop]
              have := (hcnt.out j (by omega)).1
              rw [HZR.out, List.getD_eq_getElem?_getD, List.getElem?_drop]
              rw [List.getD_eq_getElem?_getD] at this
              intro h
              have := this h
              omega
            have hlz : zr.length ≤ 60 := by rw [← hzL]; omega
            have h4' := h4
            rw [hzL] at h3 h4
            have h3d := (h3.fr0 hf10).cell
            have hbd := hf10.cell hbm (fun x => x)
            have HOW := Lib.hid h4
            have HIN := Lib.hid hin
            clear hzL h4' h4 HZR h3c hbm
            rcases Nat.eq_zero_or_pos zr.length with h0 | h0
            · have hz0 := List.length_eq_zero_iff.1 h0
              subst hz0
              clear hnlt
              gi_wp2_with fail
              have hsl : ∀ wx, (Instr.slice 22 (.slice A' 0 c') none (some (.int .i64 0)) none).run Try.prog wx = .ok (.slice A' 0 c') wx := slice_head A' 0 c' 0 (Nat.zero_le _)
              have hmn : min (0 : Int) (mx : Int) = 0 := by omega
              rw [List.take_nil] at HOW h3d
              have KS := Lib.hid (fun w' (f : Fr0 w10 w') => Same_is (c := c4) (d := c') (((own_intsI (l := []) HOW.out (by simp)).fr0 hf10).fr0 f) (HIN.out.fr0 f))
              have hwr2 : IntKind.i64.wrap (mx : Int) = (mx : Int) := by rw [IntKind.wrap_i64]; omega
              refine wpIn_wide.2 ?_
              refine wp_region_still_tail 8 (by kernel_rfl) (by kernel_rfl) ?_
              simp only [List.take_succ_cons, List.take_zero, List.drop_succ_cons, List.drop_zero]
              change wpStill _ _ (World.drew _) _ _ _
              repeat still_step
              refine wpStill_nil ?_
              change wpList _ _ _ _ _ (World.drew _)
              go_wp2_with (go_at_call 20; refine (KS.out _ (fr_drew _ _)).mono ?_; rintro e w11 ⟨_, rfl, rfl, hf11⟩)
              gi_wp2
              refine leave1 rfl (hf11.nd _ _ (hf10.nd _ _ hk2 rfl) rfl) (fun W' hG => ⟨_, rfl, rfl, Fr.andGrow (((hf0.trans0 (hFI.trans0 h1)).trans0 hf10).trans0 ((fr_drew _ _).trans0 hf11)) hG (by omega)⟩)
            · have hpos : (0 : Int) < (zr.length : Int) := by omega
              obtain ⟨b, o, rfl, hc⟩ := hin.at_ (k := 0) h0
              rw [Nat.add_zero] at hc
              have hn1 := hnlt h0
              clear hnlt
              generalize zr.getD 0 0 = hd at hn1 hc
              try (have hn2 := hn1 HQF.out)
              clear hn1
              gi_wp2_with fail
              by_cases hmm : mx < zr.length
              · have hmn : min (zr.length : Int) (mx : Int) = (mx : Int) := by omega
                have hsl := slice_head (some ⟨b, o, none⟩) zr.length c' mx (by omega)
                have htl : (zr.take mx).length = mx := by rw [List.length_take]; omega
                have KS := Lib.hid (fun w' (f : Fr0 w10 w') => Same_is (c := c4) (d := c') (((own_intsI HOW.out (by rw [htl]; omega)).fr0 hf10).fr0 f) ((HIN.out.take mx).fr0 f))
                rw [htl] at KS h3d
                clear htl
                have hwr2 : IntKind.i64.wrap (mx : Int) = (mx : Int) := by rw [IntKind.wrap_i64]; omega
                refine wpIn_wide.2 ?_
                refine wp_region_still_tail 8 (by kernel_rfl) (by kernel_rfl) ?_
                simp only [List.take_succ_cons, List.take_zero, List.drop_succ_cons, List.drop_zero]
                change wpStill _ _ (World.drew _) _ _ _
                repeat still_step
                refine wpStill_nil ?_
                change wpList _ _ _ _ _ (World.drew _)
                go_wp2_with (go_at_call 20; refine (KS.out _ (fr_drew _ _)).mono ?_; rintro e w11 ⟨_, rfl, rfl, hf11⟩)
                gi_wp2
                refine leave1 rfl (hf11.nd _ _ (hf10.nd _ _ hk2 rfl) rfl) (fun W' hG => ⟨_, rfl, rfl, Fr.andGrow (((hf0.trans0 (hFI.trans0 h1)).trans0 hf10).trans0 ((fr_drew _ _).trans0 hf11)) hG (by omega)⟩)
              · have hmn : min (zr.length : Int) (mx : Int) = (zr.length : Int) := by omega
                have hsl := slice_head (some ⟨b, o, none⟩) zr.length c' zr.length (by omega)
                have htk : zr.take mx = zr := List.take_of_length_le (by omega)
                rw [htk] at HOW h3d
                have KS := Lib.hid (fun w' (f : Fr0 w10 w') => Same_is (c := c4) (d := c') (((own_intsI HOW.out (by omega)).fr0 hf10).fr0 f) (HIN.out.fr0 f))
                clear htk
                have hwr2 : IntKind.i64.wrap (mx : Int) = (mx : Int) := by rw [IntKind.wrap_i64]; omega
                refine wpIn_wide.2 ?_
                refine wp_region_still_tail 8 (by kernel_rfl) (by kernel_rfl) ?_
                simp only [List.take_succ_cons, List.take_zero, List.drop_succ_cons, List.drop_zero]
                change wpStill _ _ (World.drew _) _ _ _
                repeat still_step
                refine wpStill_nil ?_
                change wpList _ _ _ _ _ (World.drew _)
                go_wp2_with (go_at_call 20; refine (KS.out _ (fr_drew _ _)).mono ?_; rintro e w11 ⟨_, rfl, rfl, hf11⟩)
                gi_wp2
                refine leave1 rfl (hf11.nd _ _ (hf10.nd _ _ hk2 rfl) rfl) (fun W' hG => ⟨_, rfl, rfl, Fr.andGrow (((hf0.trans0 (hFI.trans0 h1)).trans0 hf10).trans0 ((fr_drew _ _).trans0 hf11)) hG (by omega)⟩)
end Go.Proofs.Ytinjioheimpoeaa
