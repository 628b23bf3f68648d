/- What leads to what leads to a third one leads to that; each arc of the mask leads; what leads begins with an arc of the mask: the law's walk. -/
import Derived.Test.YtdihpobegoihkaaDoorClosureRows
namespace Go.Proofs.YtdihpobegoihkaaDoor
set_option linter.all false
open Go.RowKit
set_option maxRecDepth 100000

section
variable {n : Nat} {l J : List ArcI}
/-- What leads on leads. -/
theorem Built.trans (h : Built n l J) {m : Int} {a d b : Nat} (h1 : warsh (fun i => rowM n J m i) n a d = true) (h2 : warsh (fun i => rowM n J m i) n d b = true) : warsh (fun i => rowM n J m i) n a b = true :=
  (h.closed m a b).2 (((h.closed m a d).1 h1).trans ((h.closed m d b).1 h2))
/-- What leads begins with an arc. -/
theorem Built.begins (h : Built n l J) (m : Int) (a b : Nat) : warsh (fun i => rowM n J m i) n a b = (rowM n J m a b || (List.range n).any (fun d => rowM n J m a d && warsh (fun i => rowM n J m i) n d b)) := by
  rw [Bool.eq_iff_iff, h.closed]
  simp only [Bool.or_eq_true, List.any_eq_true, List.mem_range, Bool.and_eq_true]
  constructor
  · intro hr
    cases hr with
    | one h1 => exact .inl h1
    | more h1 h2 => exact .inr ⟨_, (h.lt h1).2, h1, (h.closed m _ b).2 h2⟩
  · rintro (h1 | ⟨d, _, h1, h2⟩)
    · exact .one h1
    · exact .more h1 ((h.closed m d b).1 h2)
theorem leadsI_nat {M : Nat → Nat → Bool} {a b : Nat} (ha : a < n) : leadsI n M (a : Int) (b : Int) = M a b := by
  have hh : hasI n (a : Int) = true := by simp [hasI]; omega
  simp [leadsI, hh]
end
theorem any_range_succ (k : Nat) (p : Nat → Bool) : (List.range (k + 1)).any p = ((List.range k).any p || p k) := by
  rw [List.range_succ, List.any_append]; simp
theorem bit_no {x m : Int} (h : (bits BinOp.and IntKind.i64 x m != 0) = false) : (bits BinOp.and IntKind.i64 x m == 0) = true := by simpa using h
theorem bit_yes {x m : Int} (h : (bits BinOp.and IntKind.i64 x m != 0) = true) : (bits BinOp.and IntKind.i64 x m == 0) = false ∧ ¬ bits BinOp.and IntKind.i64 x m = 0 := by
  have h1 : ¬ bits BinOp.and IntKind.i64 x m = 0 := by simpa using h
  exact ⟨by simpa using h1, h1⟩
set_option maxHeartbeats 8000000 in
theorem ClosureClosed_is {W : World} {n m : Int} {A : Option Addr} {c : Nat} {l : List ArcI} (hT : Tab W) (hl : ArcsAt W A l) (hP : Plain A l.length c) :
    Calls Tryd.prog 4 #[.int .i64 n, .slice A l.length c, .int .i64 m] W (Rets (SamePost true W)) := by
  have HF := Lib.hid (Few_is (c := c) hl n 30 200)
  cases hf : fewI n l 30 200 with
  | false =>
    rw [hf] at HF
    have HW := Lib.hid (works36_is hT)
    clear hl hT hP hf
    go_enter Tryd.func4, Tryd.ntmps4
    go_wp2_with (first
      | (go_at_call 13; refine (HF.out).mono ?_; rintro e w' ⟨rfl, rfl⟩)
      | (go_at_call 14; refine (HW.out).mono ?_; rintro e w' ⟨_, rfl, rfl, hf1⟩))
    go_ret
    exact ⟨_, rfl, rfl, hf1⟩
  | true =>
    rw [hf] at HF
    obtain ⟨h0, h1, h2, h3⟩ := few_parts hf
    obtain ⟨N, rfl⟩ : ∃ N : Nat, n = (N : Int) := ⟨n.toNat, by omega⟩
    have hN : N ≤ 1024 := by omega
    have HT := Lib.hid hT
    have HL := Lib.hid hl
    have H3 := Lib.hid h3
    have HR := Lib.hid (RefNew_is (c := c) hl hN h3)
    clear hl hT hP hf h3
    go_enter Tryd.func4, Tryd.ntmps4
    go_wp2_with (first
      | (go_at_call 13; refine (HF.out).mono ?_; rintro e w' ⟨rfl, rfl⟩)
      | (go_at_call 15; refine (HR.out).mono ?_; rintro e w1 ⟨_, rfl, R, cR, rfl, hf1, hR1⟩)
      | (go_at_call 17; refine (build_is (c := c) (HL.out.fr0 (hf1.trans0 (fr_alloc _ w1 (.cells #[.int .i64 (N : Int), .slice R N cR] 27)))) (by omega) hN H3.out).mono ?_; rintro e w2 ⟨v2, rfl, hb2⟩; obtain ⟨g, J, rfl, hf2, hB, hG⟩ := built_of hN H3.out hb2)
      | (go_at_call 16; refine (CloNew_is hG m (HT.out.fr ((hf1.trans0 (fr_alloc _ w1 (.cells #[.int .i64 (N : Int), .slice R N cR] 27))).trans0 hf2) (fun x => x))).mono ?_; rintro e w4 ⟨v3, rfl, cg, L, rfl, hf3, hC4⟩))
    have hfX : Fr0 w1 (w1.alloc (.cells #[.int .i64 (N : Int), .slice R N cR] 27)) := fr_alloc _ _ _
    have hF4 : Fr0 W w4 := ((hf1.trans0 hfX).trans0 hf2).trans0 hf3
    have hhp : w4.heap[w1.heap.size]? = some (.cells #[.int .i64 (N : Int), .slice R N cR] 27 (0, 0)) := Fr0.heap' (hf2.trans0 hf3) (World.alloc_heap_new _ _)
    have b0 : w4.cell? ⟨w1.heap.size, 0, none⟩ = some (.int .i64 N) := by simp [World.cell?, hhp]
    have b1 : w4.cell? ⟨w1.heap.size, 1, none⟩ = some (.slice R N cR) := by simp [World.cell?, hhp]
    have hR4 : RefG w4 N R (mxL l) := ((hR1.fr0 hfX).fr0 hf2).fr0 hf3
    have HB := Lib.hid hB
    have HD := Lib.hid (fun w' (f : Fr0 w4 w') (a b : Nat) (ha : a < N) => show Calls Tryd.prog 23 #[.pointer (some ⟨cg, 0, none⟩), .int .i64 (a : Int), .int .i64 (b : Int)] w' fun e w'' => e = .returned (.bool (warsh (fun i => rowM N J m i) N a b)) ∧ w' = w'' from by
      have := Leads_is (hC4.fr0 f) (a : Int) (b : Int)
      rwa [leadsI_nat ha] at this)
    have HM := Lib.hid (fun w' (f : Fr0 w4 w') (a b : Nat) => MaskR_is (c := cR) (hR4.fr0 f) (a : Int) (b : Int))
    have hbit : ∀ a b : Nat, (bits BinOp.and IntKind.i64 (maskR N (mxL l) (a : Int) (b : Int)) m != 0) = rowM N J m a b := fun a b => hB.out m a b
    have HBIT := Lib.hid hbit
    have HW := Lib.hid (fun w' (f : Fr0 w4 w') => works36_is (HT.out.fr (hF4.trans0 f) (fun x => x)))
    clear hhp hR4 hC4 hR1 hG hB HF HR hbit
    have HF4 := Lib.hid hF4
    clear hF4 hf1 hfX hf2 hf3
    go_loopw [10] (fun v10 wr => ∃ a : Nat, a ≤ N ∧ v10 = .int .i64 a ∧ Fr0 w4 wr) (fun v10 _ => N - (intOf v10).toNat)
    case atStart => exact ⟨0, by omega, rfl, Fr.refl _ _⟩
    case round =>
      obtain ⟨a, ha, rfl, hfa⟩ := hrel
      by_cases hlt : a < N
      · have hlt' : (a : Int) < (N : Int) := by omega
        go_wp2_with fail
        rename World => wa
        go_loopw [11] (fun v11 wr => ∃ b : Nat, b ≤ N ∧ v11 = .int .i64 b ∧ Fr0 w4 wr) (fun v11 _ => N - (intOf v11).toNat)
        case atStart => exact ⟨0, by omega, rfl, hfa⟩
        case round =>
          clear hfa
          obtain ⟨b, hb, rfl, hfb⟩ := hrel
          by_cases hlb : b < N
          · have hlb' : (b : Int) < (N : Int) := by omega
            rename World => wb
            have g0 := hfb.cell b0 (fun x => x)
            have g1 := hfb.cell b1 (fun x => x)
            have HMab := Lib.hid (HM.out _ hfb a b)
            have hx := HBIT.out a b
            generalize maskR N (mxL l) (a : Int) (b : Int) = mk at HMab hx
            cases hr : rowM N J m a b
            all_goals
              rw [hr] at hx
              have HRR := Lib.hid hr
              clear hr
              first
                | (have hz0 := bit_no hx)
                | (have hz0 := (bit_yes hx).1; have hz1 := (bit_yes hx).2)
              go_wp2_with (go_at_call 27; refine (HMab.out).mono ?_; rintro e w' ⟨_, rfl, rfl, hfm⟩)
              have hfM := hfb.trans0 hfm
              (try clear hz1)
              clear hz0 HMab hx
              go_loopw [13, 14] (fun v13 v14 wr => ∃ (d : Nat) (bg : Bool), d ≤ N ∧ v14 = .int .i64 d ∧ v13 = .bool bg ∧ Hid (bg = (rowM N J m a b || (List.range d).any (fun d => rowM N J m a d && warsh (fun i => rowM N J m i) N d b))) ∧ Fr0 w4 wr) (fun _ v14 _ => N - (intOf v14).toNat)
              case atStart => exact ⟨0, _, by omega, rfl, rfl, Lib.hid (by rw [HRR.out]; rfl), hfM⟩
              case round =>
                clear hfM g0 g1
                obtain ⟨d, bg, hd, rfl, rfl, HBG, hfd⟩ := hrel
                have g0 := hfd.cell b0 (fun x => x)
                have g1 := hfd.cell b1 (fun x => x)
                by_cases hld : d < N
                · have hld' : (d : Int) < (N : Int) := by omega
                  have HBS := Lib.hid (any_range_succ d (fun d => rowM N J m a d && warsh (fun i => rowM N J m i) N d b))
                  have HL1 := Lib.hid (HD.out _ hfd a d hlt)
                  have HL2 := Lib.hid (fun w' (f : Fr0 w4 w') => HD.out w' f d b hld)
                  have HL3 := Lib.hid (HD.out _ hfd a b hlt)
                  have HMad := Lib.hid (HM.out _ hfd a d)
                  have hx := HBIT.out a d
                  generalize maskR N (mxL l) (a : Int) (d : Int) = md at HMad hx
                  have htr : warsh (fun i => rowM N J m i) N a d = true → warsh (fun i => rowM N J m i) N d b = true → warsh (fun i => rowM N J m i) N a b = true := HB.out.trans
                  generalize h1 : warsh (fun i => rowM N J m i) N a d = x1 at HL1 htr
                  generalize h2 : warsh (fun i => rowM N J m i) N d b = x2 at HL2 htr
                  generalize h3 : warsh (fun i => rowM N J m i) N a b = x3 at HL3 htr
                  generalize h4 : rowM N J m a d = x4 at hx
                  have HX2 := Lib.hid h2
                  have HX4 := Lib.hid h4
                  clear h1 h2 h3 h4
                  cases x1 <;> cases x2 <;> cases x3 <;> first | exact absurd (htr rfl rfl) (by decide) | skip
                  all_goals
                    clear htr
                    cases bg <;> cases x4
                  all_goals
                    first
                      | (have hz0 := bit_no hx)
                      | (have hz0 := (bit_yes hx).1; have hz1 := (bit_yes hx).2)
                    go_wp2_with (first
                      | (go_at_call 23; with_reducible refine (HL1.out).mono ?_; rintro e w' ⟨rfl, rfl⟩)
                      | (go_at_call 23; with_reducible refine (HL3.out).mono ?_; rintro e w' ⟨rfl, rfl⟩)
                      | (go_at_call 23; with_reducible refine (HL2.out _ hfd).mono ?_; rintro e w' ⟨rfl, rfl⟩)
                      | (go_at_call 23; with_reducible refine (HL2.out _ (hfd.trans0 hfm2)).mono ?_; rintro e w' ⟨rfl, rfl⟩)
                      | (go_at_call 27; refine (HMad.out).mono ?_; rintro e w' ⟨_, rfl, rfl, hfm2⟩))
                    go_roundw
                    case measure => simp [intOf]; omega
                    case rel => first
                      | exact ⟨d + 1, _, by omega, by go_num, rfl, Lib.hid (by rw [HBS.out, ← Bool.or_assoc, ← HBG.out, HX2.out, HX4.out]; rfl), hfd⟩
                      | exact ⟨d + 1, _, by omega, by go_num, rfl, Lib.hid (by rw [HBS.out, ← Bool.or_assoc, ← HBG.out, HX2.out, HX4.out]; rfl), hfd.trans0 hfm2⟩
                · have hde : d = N := by omega
                  subst hde
                  have hbg := HBG.out
                  have hbe := HB.out.begins m a b
                  rw [← hbg] at hbe
                  have HL3 := Lib.hid (HD.out _ hfd a b hlt)
                  rw [hbe] at HL3
                  rw [HRR.out] at hbg
                  clear hbe
                  have hcase : bg = (_ || _) := hbg
                  cases bg with
                  | false =>
                    first
                      | (clear hbg hcase
                         go_wp2_with (go_at_call 23; refine (HL3.out).mono ?_; rintro e w' ⟨rfl, rfl⟩)
                         go_roundw
                         case rel => exact ⟨b + 1, by omega, by go_num, hfd⟩
                         case measure => simp [intOf]; omega)
                      | (simp at hbg)
                  | true =>
                    clear hbg hcase
                    go_wp2_with (go_at_call 23; refine (HL3.out).mono ?_; rintro e w' ⟨rfl, rfl⟩)
                    go_roundw
                    case rel => exact ⟨b + 1, by omega, by go_num, hfd⟩
                    case measure => simp [intOf]; omega
          · go_wp2_with fail
            go_roundw
            case rel => exact ⟨a + 1, by omega, by go_num, hfb⟩
            case measure => simp [intOf]; omega
      · go_wp2_with (go_at_call 14; refine (HW.out _ hfa).mono ?_; rintro e w' ⟨_, rfl, rfl, hf1⟩)
        go_ret
        exact ⟨_, rfl, rfl, (HF4.out.trans0 hfa).trans0 hf1⟩
end Go.Proofs.YtdihpobegoihkaaDoor
