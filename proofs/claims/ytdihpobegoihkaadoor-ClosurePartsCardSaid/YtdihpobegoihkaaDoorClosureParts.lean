/- Two vertices are in one part just if each leads to the other one: the law's walk. -/
import Derived.Test.YtdihpobegoihkaaDoorClosureClosed
import Derived.Test.YtdihpobegoihkaaDoorPart
namespace Go.Proofs.YtdihpobegoihkaaDoor
set_option linter.all false
open Go.RowKit
set_option maxRecDepth 100000

theorem Reach.flip {E : Nat → Nat → Bool} {a b : Nat} (h : Reach (fun u w => E w u) a b) : Reach E b a := by
  induction h with
  | one h => exact .one h
  | more h _ ih => exact ih.snoc h
theorem Reach.flip' {E : Nat → Nat → Bool} {a b : Nat} (h : Reach E a b) : Reach (fun u w => E w u) b a := by
  induction h with
  | one h => exact .one h
  | more h _ ih => exact ih.snoc h
section
variable {n : Nat} {l J : List ArcI}
theorem maskR_flip (n : Nat) (Mx : Nat → Nat → Int) (a b : Int) : maskR n (fun x y => Mx y x) a b = maskR n Mx b a := by
  unfold maskR
  by_cases h : 0 ≤ a ∧ a < n ∧ 0 ≤ b ∧ b < n
  · rw [if_pos h, if_pos ⟨h.2.2.1, h.2.2.2, h.1, h.2.1⟩]
  · rw [if_neg h, if_neg (fun h2 => h ⟨h2.2.2.1, h2.2.2.2, h2.1, h2.2.1⟩)]
theorem Built.arcT (h : Built n l J) (m : Int) : arcR n (fun a b => mxL l b a) (natI (List.range n)) m = fun u w => rowM n J m w u := by
  funext u w
  have e : outR n (fun a b => mxL l b a) (u : Int) m w = rowM n J m w u := by
    rw [← h.out]
    show (bits .and .i64 (maskR n (fun a b => mxL l b a) (u : Int) (w : Int)) m != 0) = (bits .and .i64 (maskR n (mxL l) (w : Int) (u : Int)) m != 0)
    rw [maskR_flip]
  rw [arcR, e]
  cases hh : rowM n J m w u with
  | false => rfl
  | true => simp [mem_natI_range, (h.lt hh).1]
theorem start_one (v u : Nat) (hv : v < n) : startR [(v : Int)] (natI (List.range n)) u = true ↔ u = v := by
  simp only [startR, Bool.and_eq_true, decide_eq_true_eq, mem_natI_range, List.mem_singleton]
  constructor
  · rintro ⟨h, _⟩; omega
  · rintro rfl; exact ⟨rfl, hv⟩
theorem Built.part (h : Built n l J) (m : Int) {v : Nat} (hv : v < n) :
    elems n (partR n (mxL l) (natI (List.range n)) v m) = elems n (fun w => decide (w = v) || (warsh (fun i => rowM n J m i) n v w && warsh (fun i => rowM n J m i) n w v)) := by
  apply elems_congr
  intro w hw
  rw [Bool.eq_iff_iff, partR]
  simp only [Bool.and_eq_true, fromR, decide_eq_true_eq, Bool.or_eq_true, h.closed]
  rw [h.arc, h.arcT, iterP_all (fun w hw => by have := (start_one v w hv).1 hw; omega) (fun u w hh => (h.lt hh).2) (Nat.le_succ n),
    iterP_all (fun w hw => by have := (start_one v w hv).1 hw; omega) (fun u w hh => (h.lt hh).1) (Nat.le_succ n)]
  simp only [start_one v _ hv]
  constructor
  · rintro ⟨⟨_, u, rfl, h1⟩, ⟨_, u', rfl, h2⟩⟩
    rcases h1 with rfl | h1
    · exact .inl rfl
    · rcases h2 with rfl | h2
      · exact .inl rfl
      · exact .inr ⟨h1, h2.flip⟩
  · rintro (rfl | ⟨h1, h2⟩)
    · exact ⟨⟨hw, w, rfl, .inl rfl⟩, hw, w, rfl, .inl rfl⟩
    · exact ⟨⟨hw, v, rfl, .inr h1⟩, hw, v, rfl, .inr h2.flip'⟩
end
set_option maxHeartbeats 8000000 in
theorem ClosureParts_is {W : World} {n m : Int} {A : Option Addr} {c : Nat} {l : List ArcI} (hT : Tab W) (hl : ArcsAt W A l) (hP : Plain A l.length c) :
    Calls Tryd.prog 5 #[.int .i64 n, .slice A l.length c, .int .i64 m] W (Rets (SamePost true W)) := by
  have HF := Lib.hid (Few_is (c := c) hl n 30 200)
  cases hf : fewI n l 30 200 with
  | false =>
    rw [hf] at HF
    have HW := Lib.hid (works36_is hT)
    clear hl hT hP hf
    go_enter Tryd.func5, Tryd.ntmps5
    go_wp2_with (first
      | (go_at_call 13; refine (HF.out).mono ?_; rintro e w' ⟨rfl, rfl⟩)
      | (go_at_call 14; refine (HW.out).mono ?_; rintro e w' ⟨_, rfl, rfl, hf1⟩))
    go_ret
    exact ⟨_, rfl, rfl, hf1⟩
  | true =>
    rw [hf] at HF
    obtain ⟨i0, hi, hz0, hz1, hz2⟩ := info_parts info_int
    obtain ⟨h0, h1, h2, h3⟩ := few_parts hf
    obtain ⟨N, rfl⟩ : ∃ N : Nat, n = (N : Int) := ⟨n.toNat, by omega⟩
    have hN : N ≤ 1024 := by omega
    have HT := Lib.hid hT
    have HL := Lib.hid hl
    have H3 := Lib.hid h3
    have HR := Lib.hid (RefNew_is (c := c) hl hN h3)
    clear hl hT hP hf h3
    go_enter Tryd.func5, Tryd.ntmps5
    go_wp2_with (first
      | (go_at_call 13; refine (HF.out).mono ?_; rintro e w' ⟨rfl, rfl⟩)
      | (go_at_call 15; refine (HR.out).mono ?_; rintro e w1 ⟨_, rfl, R, cR, rfl, hf1, hR1⟩)
      | (go_at_call 17; refine (build_is (c := c) (HL.out.fr0 (hf1.trans0 (fr_alloc _ w1 (.cells #[.int .i64 (N : Int), .slice R N cR] 27)))) (by omega) hN H3.out).mono ?_; rintro e w2 ⟨v2, rfl, hb2⟩; obtain ⟨g, J, rfl, hf2, hB, hG⟩ := built_of hN H3.out hb2)
      | (go_at_call 16; refine (CloNew_is hG m (HT.out.fr ((hf1.trans0 (fr_alloc _ w1 (.cells #[.int .i64 (N : Int), .slice R N cR] 27))).trans0 hf2) (fun x => x))).mono ?_; rintro e w4 ⟨v3, rfl, cg, L, rfl, hf3, hC4⟩))
    have hfX : Fr0 w1 (w1.alloc (.cells #[.int .i64 (N : Int), .slice R N cR] 27)) := fr_alloc _ _ _
    have hF4 : Fr0 W w4 := ((hf1.trans0 hfX).trans0 hf2).trans0 hf3
    have hhp : w4.heap[w1.heap.size]? = some (.cells #[.int .i64 (N : Int), .slice R N cR] 27 (0, 0)) := Fr0.heap' (hf2.trans0 hf3) (World.alloc_heap_new _ _)
    have b0 : w4.cell? ⟨w1.heap.size, 0, none⟩ = some (.int .i64 N) := by simp [World.cell?, hhp]
    have b1 : w4.cell? ⟨w1.heap.size, 1, none⟩ = some (.slice R N cR) := by simp [World.cell?, hhp]
    have hR4 : RefG w4 N R (mxL l) := ((hR1.fr0 hfX).fr0 hf2).fr0 hf3
    have HB := Lib.hid hB
    have HD := Lib.hid (fun w' (f : Fr0 w4 w') (a b : Nat) (ha : a < N) => show Calls Tryd.prog 23 #[.pointer (some ⟨cg, 0, none⟩), .int .i64 (a : Int), .int .i64 (b : Int)] w' fun e w'' => e = .returned (.bool (warsh (fun i => rowM N J m i) N a b)) ∧ w' = w'' from by
      have := Leads_is (hC4.fr0 f) (a : Int) (b : Int)
      rwa [leadsI_nat ha] at this)
    have HPA := Lib.hid (fun w' (f : Fr0 w4 w') (B : Option Addr) (e v : Nat) (hB : IntsAt w' B (natI (List.range N))) => Part_is (c := cR) (e := e) (hR4.fr0 f) hB (v : Int) m)
    simp only [show (natI (List.range N)).length = N by simp [natI]] at HPA
    have HW := Lib.hid (fun w' (f : Fr0 w4 w') => works36_is (HT.out.fr (hF4.trans0 f) (fun x => x)))
    clear hhp hR4 hC4 hR1 hG hB HF HR
    have HF4 := Lib.hid hF4
    clear hF4 hf1 hfX hf2 hf3
    go_loopw [10] (fun v10 wr => ∃ a : Nat, a ≤ N ∧ v10 = .int .i64 a ∧ Fr0 w4 wr) (fun v10 _ => N - (intOf v10).toNat)
    case atStart => exact ⟨0, by omega, rfl, Fr.refl _ _⟩
    case round =>
      obtain ⟨a, ha, rfl, hfa⟩ := hrel
      by_cases hlt : a < N
      · have hlt' : (a : Int) < (N : Int) := by omega
        rename World => wa
        have hsa := hfa.size
        have HPE := Lib.hid (HB.out.part m hlt)
        obtain ⟨P, hPd⟩ : ∃ P : Nat → Bool, P = fun w => decide (w = a) || (warsh (fun i => rowM N J m i) N a w && warsh (fun i => rowM N J m i) N w a) := ⟨_, rfl⟩
        rw [← hPd] at HPE
        have HP0 := Lib.hid (fun w => congrFun hPd w)
        clear hPd
        go_wp2_with fail
        go_loopw [11, 12] (fun v11 v12 wr => ∃ k : Nat, k ≤ N ∧ v12 = .int .i64 k ∧ Fr0 wa wr ∧ Hid (wr.ownsRow wa.heap.size 3 1 v11 ((List.range k).filter P).length (ints ((List.range k).filter P)))) (fun _ v12 _ => N - (intOf v12).toNat)
        case atStart => exact ⟨0, by omega, rfl, Fr.refl _ _, Lib.hid (own_nil _ _ _ _)⟩
        case round =>
          obtain ⟨k, hk, rfl, hfk, HO⟩ := hrel
          have hsk := hfk.size
          obtain ⟨A3, c3, e3⟩ := own_form HO.out
          subst e3
          by_cases hlk : k < N
          · have hlk' : (k : Int) < (N : Int) := by omega
            have hst := range_succ_filter P k
            have hfl : ((List.range k).filter P).length ≤ k := Nat.le_trans (List.length_filter_le _ _) (by rw [List.length_range]; exact Nat.le_refl _)
            have hp0 := HP0.out k
            have HL1 := Lib.hid (HD.out _ (hfa.trans0 hfk) a k hlt)
            have HL2 := Lib.hid (HD.out _ (hfa.trans0 hfk) k a hlk)
            generalize (List.range k).filter P = acc at HO hst hfl
            rw [hp0] at hst
            clear hp0
            generalize warsh (fun i => rowM N J m i) N a k = x1 at HL1 hst
            generalize warsh (fun i => rowM N J m i) N k a = x2 at HL2 hst
            have ho := HO.out
            by_cases hka : k = a
            · have hkb : ((k : Int) == (a : Int)) = true := by simp [hka]
              have HT2 := Lib.hid (by rw [hst]; simp [hka] : (List.range (k + 1)).filter P = acc ++ [k])
              clear hst hka
              go_wp2_with (at_builtin; refine wpList_append_own _ rfl _ _ 37 rfl wa.heap.size 3 i0 (.int .i64 0) 1 8 Tryd.underlying37 hi hz0 hz1 hz2 rfl (by decide) _ _ _ rfl (own_fr0 ho (fr_alloc _ _ _)) _ 1 1 [.int .i64 (k : Int)] rfl rfl (cell_one_new _ _ _) (by simp [Value.oneCell']) (by unfold maxLen; omega) (by omega) (by simp; omega) ?_; intro v' w2 hown' hgrow _)
              go_roundw
              case rel => exact ⟨k + 1, by omega, by go_num, (hfk.alloc _).trans (append_fr0 (own_fr0 ho (fr_alloc _ _ _)) hgrow) (fun j hj e => own_old ho hj e), Lib.hid (by rw [HT2.out]; rw [ints_snoc] at hown'; simpa using hown')⟩
              case measure => simp [intOf]; omega
            · have hkb : ((k : Int) == (a : Int)) = false := by simp; omega
              have hne : ¬ (k : Int) = (a : Int) := by omega
              cases x1 <;> cases x2
              all_goals
                have hq2 := hst
                simp only [hka, decide_false, Bool.false_or, Bool.and_self, Bool.and_false, Bool.false_and, Bool.and_true, Bool.true_and, if_true, if_false, Bool.false_eq_true, List.append_nil] at hq2
                first
                  | have HT2 := Lib.hid (show (List.range (k + 1)).filter P = acc ++ [k] from hq2)
                  | have HT2 := Lib.hid (show (List.range (k + 1)).filter P = acc from hq2)
                clear hst hka hq2
                go_wp2_with (first
                  | (go_at_call 23; with_reducible refine (HL1.out).mono ?_; rintro e w' ⟨rfl, rfl⟩)
                  | (go_at_call 23; with_reducible refine (HL2.out).mono ?_; rintro e w' ⟨rfl, rfl⟩)
                  | (at_builtin; refine wpList_append_own _ rfl _ _ 37 rfl wa.heap.size 3 i0 (.int .i64 0) 1 8 Tryd.underlying37 hi hz0 hz1 hz2 rfl (by decide) _ _ _ rfl (own_fr0 ho (fr_alloc _ _ _)) _ 1 1 [.int .i64 (k : Int)] rfl rfl (cell_one_new _ _ _) (by simp [Value.oneCell']) (by unfold maxLen; omega) (by omega) (by simp; omega) ?_; intro v' w2 hown' hgrow _))
                go_roundw
                case measure => simp [intOf]; omega
                case rel => first
                  | exact ⟨k + 1, by omega, by go_num, hfk, Lib.hid (by rw [HT2.out]; exact ho)⟩
                  | exact ⟨k + 1, by omega, by go_num, (hfk.alloc _).trans (append_fr0 (own_fr0 ho (fr_alloc _ _ _)) hgrow) (fun j hj e => own_old ho hj e), Lib.hid (by rw [HT2.out]; rw [ints_snoc] at hown'; simpa using hown')⟩
          · have hke : k = N := by omega
            subst hke
            have HO2 : Hid (_) := Lib.hid (show World.ownsRow _ wa.heap.size 3 1 (.slice A3 (elems k P).length c3) (elems k P).length (ints (elems k P)) from HO.out)
            have hel := elems_len k P
            rw [show (List.range k).filter P = elems k P from rfl]
            rename World => wp
            have HFP := Lib.hid (hfa.trans0 hfk)
            have hfp := hfa.trans0 hfk
            clear HO
            go_wp2_with fail
            go_loopw [13, 14] (fun v13 v14 wr => ∃ q : Nat, q ≤ k ∧ v14 = .int .i64 q ∧ Fr0 wp wr ∧ Hid (wr.ownsRow wp.heap.size 3 1 v13 q (ints (List.range q)))) (fun _ v14 _ => k - (intOf v14).toNat)
            case atStart => exact ⟨0, by omega, rfl, Fr.refl _ _, Lib.hid (own_nil _ _ _ _)⟩
            case round =>
              obtain ⟨q, hq, rfl, hfq, HQ⟩ := hrel
              have hsq := hfq.size
              obtain ⟨A4, c4, e4⟩ := own_form HQ.out
              subst e4
              by_cases hlq : q < k
              · have hlq' : (q : Int) < (k : Int) := by omega
                have ho := HQ.out
                go_wp2_with (at_builtin; refine wpList_append_own _ rfl _ _ 37 rfl wp.heap.size 3 i0 (.int .i64 0) 1 8 Tryd.underlying37 hi hz0 hz1 hz2 rfl (by decide) _ _ _ rfl (own_fr0 ho (fr_alloc _ _ _)) _ 1 1 [.int .i64 (q : Int)] rfl rfl (cell_one_new _ _ _) (by simp [Value.oneCell']) (by unfold maxLen; omega) (by omega) (by simp; omega) ?_; intro v' w2 hown' hgrow _)
                go_roundw
                case rel =>
                  rw [ints_snoc, ← List.range_succ] at hown'
                  exact ⟨q + 1, by omega, by go_num, (hfq.alloc _).trans (append_fr0 (own_fr0 ho (fr_alloc _ _ _)) hgrow) (fun j hj e => own_old ho hj e), Lib.hid hown'⟩
                case measure => simp [intOf]; omega
              · have hqe : q = k := by omega
                subst hqe
                have g0 := (hfp.trans0 hfq).cell b0 (fun x => x)
                have g1 := (hfp.trans0 hfq).cell b1 (fun x => x)
                have hIr : IntsAt wr A4 (natI (List.range q)) := own_ints (by rw [List.length_range]; exact HQ.out) (by rw [List.length_range]; omega)
                have HC := Lib.hid (HPA.out _ (hfp.trans0 hfq) A4 c4 a hIr)
                rw [HPE.out] at HC
                have hop := own_fr0 HO2.out hfq
                generalize elems q P = lp at HC hop hel
                go_wp2_with (first
                  | (go_at_call 28; refine (HC.out).mono ?_; rintro e w5 ⟨v5, rfl, hf5, ho5⟩; obtain ⟨A5, c5, rfl⟩ := own_form ho5)
                  | (go_at_call 19; refine (SameN_is (own_fr0 hop hf5) ho5 (by omega)).mono ?_; rintro e w6 ⟨_, rfl, rfl, hf6⟩))
                go_roundw
                case rel => exact ⟨a + 1, by omega, by go_num, ((hfp.trans0 hfq).trans0 hf5).trans0 hf6⟩
                case measure => simp [intOf]; omega
      · go_wp2_with (go_at_call 14; refine (HW.out _ hfa).mono ?_; rintro e w' ⟨_, rfl, rfl, hf1⟩)
        go_ret
        exact ⟨_, rfl, rfl, (HF4.out.trans0 hfa).trans0 hf1⟩
end Go.Proofs.YtdihpobegoihkaaDoor
