/- The library's stable sort, at arcs: merging two runs. -/
import Derived.Test.YtdcjfpjpboafnaaDoorMergeA
import Derived.Deep.DeepCutAuto
namespace Go.Proofs.YtdcjfpjpboafnaaDoor
set_option linter.all false
open Go.RowKit
set_option maxRecDepth 100000

theorem boolEq {p q : Prop} [Decidable p] [Decidable q] (h : p ↔ q) : Value.bool (decide p) = Value.bool (decide q) := by
  by_cases hp : p
  · rw [decide_eq_true hp, decide_eq_true (h.1 hp)]
  · rw [decide_eq_false hp, decide_eq_false (fun k => hp (h.2 k))]
theorem boolFalse {q : Prop} [Decidable q] (h : ¬ q) : Value.bool false = Value.bool (decide q) := by rw [decide_eq_false h]
theorem rotT_same {arr : List ArcI} {s m e : Nat} (h1 : s ≤ m) (h2 : m ≤ e) (h3 : e ≤ arr.length) (h : s = m ∨ m = e) : rotT arr s m e = arr := by
  apply List.ext_getElem?
  intro k
  rw [rotT_get arr h1 h2 h3]
  repeat' split
  all_goals first | rfl | omega | (congr 1; omega)
/-- MERGING, at runs of at most d elements together. -/
def MergeSpec (d : Nat) : Prop := ∀ (W : World) (b cap N : Nat) (arr : List ArcI) (tail : List Value) (xi mi yi : Int) (x m y : Nat), ArrAt W b arr tail → arr.length = N → N ≤ 17592186044416 → xi = x → mi = m → yi = y → x < m → m < y → y ≤ N → y - x ≤ d →
    SortedOn arr x m → SortedOn arr m y →
    Calls Tryd.prog 83 #[.slice (some ⟨b, 0, none⟩) N cap, .int .i64 xi, .int .i64 mi, .int .i64 yi, .func (.func 62) #[] #[]] W (Rets (SortPost W b tail arr x y))
set_option maxHeartbeats 16000000 in
theorem symMerge_C {d : Nat} (IH : MergeSpec d) {W : World} {b cap N : Nat} {arr : List ArcI} {tail : List Value} (h : ArrAt W b arr tail) (hN : arr.length = N) (hlen : N ≤ 17592186044416) (x m y : Nat) (hxm : x + 1 < m) (hmy : m + 1 < y) (hy : y ≤ N) (hd : y - x ≤ d + 1)
    (s1 : SortedOn arr x m) (s2 : SortedOn arr m y) :
    Calls Tryd.prog 83 #[.slice (some ⟨b, 0, none⟩) N cap, .int .i64 x, .int .i64 m, .int .i64 y, .func (.func 62) #[] #[]] W (Rets (SortPost W b tail arr x y)) := by
  have hen := stands_enters
  have HIH := Lib.hid IH
  have HN := Lib.hid hN
  have HS1 := Lib.hid s1
  have HS2 := Lib.hid s2
  clear hN s1 s2 IH
  have hb : ((m : Int) - (x : Int) == 1) = false := by simp; omega
  have hb2 : ((y : Int) - (m : Int) == 1) = false := by simp; omega
  obtain ⟨md, hmd⟩ : ∃ md : Nat, md = (x + y) / 2 := ⟨_, rfl⟩
  have e1 : ((x : Int) + (y : Int)) / 2 = (md : Int) := by omega
  have HM := Lib.hid hmd
  have HE1 := Lib.hid e1
  have m1 : x ≤ md := by omega
  have m2 : md ≤ y := by omega
  clear hmd e1
  go_enter Tryd.func83, Tryd.ntmps83
  go_upto_if 140 with (fail)
  go_cut [18, 19, 20, 21] from 25 (fun s18 s19 s20 s21 wx => ∃ s0 r0 : Nat, s18 = .int .i64 md ∧ s19 = .int .i64 ((md : Int) + m) ∧ s20 = .int .i64 s0 ∧ s21 = .int .i64 r0 ∧ Hid ((m > (x + y) / 2 ∧ s0 + y = (x + y) / 2 + m ∧ r0 = (x + y) / 2) ∨ (m ≤ (x + y) / 2 ∧ s0 = x ∧ r0 = m)) ∧ wx = W)
  case first =>
    go_wp2
    all_goals
      have h1 := HE1.out
      have h2 := HM.out
      go_meet
    case rel => exact ⟨md + m - y, md, congrArg _ h1, int_eq (by omega), int_eq (by omega), congrArg _ h1, Lib.hid (Or.inl ⟨by omega, by omega, h2⟩), rfl⟩
    case rel => exact ⟨x, m, congrArg _ h1, int_eq (by omega), rfl, rfl, Lib.hid (Or.inr ⟨by omega, rfl, rfl⟩), rfl⟩
  case rest =>
    obtain ⟨s0, r0, rfl, rfl, rfl, rfl, HS0, hwx⟩ := hcut
    have hwx' := hwx.symm
    subst hwx'
    clear hwx
    have hsr : s0 ≤ r0 := by have := HS0.out; omega
    have hrb : r0 ≤ md ∧ r0 ≤ m ∧ m ≤ md + m - r0 ∧ md + m - s0 ≤ y ∧ x ≤ s0 := by have := HS0.out; have := HM.out; omega
    go_wp2
    go_loopw [20, 21] (fun vi vj wr => ∃ (i j : Nat), s0 ≤ i ∧ i ≤ j ∧ j ≤ r0 ∧ vi = .int .i64 i ∧ vj = .int .i64 j ∧ Hid (∀ c, s0 ≤ c → c < i → leA (arr.getD c default) (arr.getD (md + m - 1 - c) default)) ∧ Hid (∀ c, j ≤ c → c < r0 → ¬ leA (arr.getD c default) (arr.getD (md + m - 1 - c) default)) ∧ ArrAt wr b arr tail ∧ Fr (fun k => k = b) W wr) (fun vi vj _ => (intOf vj).toNat - (intOf vi).toNat)
    case atStart => exact ⟨s0, r0, by omega, by omega, by omega, rfl, rfl, Lib.hid (fun k h1 h2 => by omega), Lib.hid (fun k h1 h2 => by omega), h, Fr.refl _ _⟩
    case round =>
      obtain ⟨i, j, hi, hij, hj, rfl, rfl, HA, HB, ha, hf⟩ := hrel
      by_cases hlt : i < j
      · as_aux_lemma =>
        obtain ⟨hh, hhd⟩ : ∃ hh : Nat, hh = (i + j) / 2 := ⟨_, rfl⟩
        have hq : md + m - 1 - hh < N ∧ hh < N ∧ hh + 1 ≤ md + m := by omega
        obtain ⟨c1, c2, c3⟩ := ha.arc (j := md + m - 1 - hh) (by have := HN.out; omega)
        obtain ⟨d1, d2, d3⟩ := ha.arc (j := hh) (by have := HN.out; omega)
        have hdec := standsI_lt (arr.getD (md + m - 1 - hh) default) (arr.getD hh default)
        generalize hu : arr.getD (md + m - 1 - hh) default = u at c1 c2 c3 hdec
        generalize hv : arr.getD hh default = v at d1 d2 d3 hdec
        have HU := Lib.hid hu
        have HV := Lib.hid hv
        have HH := Lib.hid hhd
        clear hu hv hhd
        go_wp2_with fail
        have e2 : ((i : Int) + (j : Int)) / 2 = (hh : Int) := by have := HH.out; omega
        rw [e2]
        clear e2
        have b1 : (hh : Int) < (N : Int) := by omega
        have b2 : (md : Int) + (m : Int) - 1 - (hh : Int) < (N : Int) := by omega
        have b3 : (hh : Int) ≤ (md : Int) + (m : Int) - 1 := by omega
        have ht : ((md : Int) + (m : Int) - 1 - (hh : Int)).toNat = md + m - 1 - hh := by omega
        have hw : IntKind.i64.wrap ((md : Int) + (m : Int) - 1 - (hh : Int)) = (md : Int) + (m : Int) - 1 - (hh : Int) := by rw [IntKind.wrap_i64]; omega
        refine wp_region_still_tail 11 (by kernel_rfl) (by kernel_rfl) ?_
        simp only [List.take_succ_cons, List.take_zero, List.drop_succ_cons, List.drop_zero]
        change wpStill _ _ (World.drew _) _ _ _
        repeat still_step
        refine wpStill_nil ?_
        clear hw
        change wpList _ _ _ _ _ (World.drew _)
        go_wp2_with fail
        refine (stands_is _ _ _ _ _ _ _).mono ?_
        rintro e w2 ⟨_, rfl, rfl, h2⟩
        have h2' : Fr0 wr w2 := Fr.trans (fr_drew _ wr) h2 (fun _ _ x => x)
        have ha2 : ArrAt w2 b arr tail := h2'.heap' ha
        generalize standsI u.f u.t v.f v.t = c at hdec ⊢
        by_cases hle : leA v u
        · have hc0 : 0 ≤ c := by
            by_cases hh : c < 0
            · exact absurd hle (hdec.1 hh)
            · omega
          have hcb : decide (c < 0) = false := by simp; omega
          have HLE := Lib.hid hle
          clear hdec hle
          go_wp2
          go_roundw
          case rel =>
            have hhe := HH.out
            refine ⟨hh + 1, j, by omega, by omega, by omega, by go_num, rfl, Lib.hid ?_, HB, ha2, hf.trans0 h2'⟩
            intro k k1 k2
            by_cases e : k = hh
            · rw [e, HV.out, HU.out]; exact HLE.out
            · have a1 := HS1.out k hh (by omega) (by omega) (by omega)
              have a2 := HS2.out (md + m - 1 - hh) (md + m - 1 - k) (by omega) (by omega) (by omega)
              rw [HV.out] at a1
              rw [HU.out] at a2
              exact leA_trans a1 (leA_trans HLE.out a2)
          case measure => have := HH.out; simp [intOf]; omega
        · have hc0 : c < 0 := hdec.2 hle
          have hcb : decide (c < 0) = true := by simp; omega
          have HLE := Lib.hid hle
          clear hdec hle
          go_wp2
          go_roundw
          case rel =>
            have hhe := HH.out
            refine ⟨i, hh, by omega, by omega, by omega, rfl, rfl, HA, Lib.hid ?_, ha2, hf.trans0 h2'⟩
            intro k k1 k2 hk
            by_cases e : k = hh
            · rw [e, HV.out, HU.out] at hk; exact HLE.out hk
            · have a1 := HS1.out hh k (by omega) (by omega) (by omega)
              have a2 := HS2.out (md + m - 1 - k) (md + m - 1 - hh) (by omega) (by omega) (by omega)
              rw [HV.out] at a1
              rw [HU.out] at a2
              exact HLE.out (leA_trans a1 (leA_trans hk a2))
          case measure => have := HH.out; simp [intOf]; omega
      · have hij : i = j := by omega
        subst hij
        have F := search_F (x := x) (m := m) (y := y) (s := i) (by omega) (by omega) HS1.out HS2.out HS0.out hi hj (by rw [← HM.out]; exact HA.out) (by rw [← HM.out]; exact HB.out)
        rw [← HM.out] at F
        obtain ⟨f1, f2, f3, f4, f5, f6, F1, F2⟩ := F
        obtain ⟨e, he⟩ : ∃ e : Nat, e = md + m - i := ⟨_, rfl⟩
        rw [← he] at f4 f5 f6 F1 F2
        have HF1 := Lib.hid F1
        have HF2 := Lib.hid F2
        have he' : (md : Int) + (m : Int) - (i : Int) = (e : Int) := by omega
        clear F1 F2 he
        go_upto_region 39 with (fail)
        go_cut [185] from 25 (fun s185 wx => s185 = .bool (decide (i < m ∧ m < e)) ∧ ArrAt wx b arr tail ∧ Fr (fun k => k = b) W wx)
        case first =>
          go_wp2_with fail
          all_goals go_meet
          case rel => exact ⟨boolEq (by omega), ha, hf⟩
          case rel => exact ⟨boolFalse (by omega), ha, hf⟩
        case rest =>
        clear ha hf
        obtain ⟨rfl, ha, hf⟩ := hcut
        go_upto_if 185 with (fail)
        go_cut [] from 25 (fun wx => ArrAt wx b (rotT arr i m e) tail ∧ Fr (fun k => k = b) W wx)
        case first =>
          by_cases hc : i < m ∧ m < e
          · have hd : decide (i < m ∧ m < e) = true := by simp [hc]
            go_wp2_with fail
            refine (rotate_is ha HN.out hlen _ _ _ i m e rfl rfl rfl hc.1 hc.2 (rotT_inv arr f2 f4 (by have := HN.out; omega)) _).mono ?_
            rintro ee w' ⟨_, rfl, rfl, hf2, ha2⟩
            go_wp2_with fail
            go_meet
            case rel => exact ⟨ha2, hf.trans hf2 (fun _ _ h => h)⟩
          · have hd : decide (i < m ∧ m < e) = false := by simpa using hc
            go_wp2_with fail
            go_meet
            case rel => rw [rotT_same f2 f4 (by have := HN.out; omega) (by omega)]; exact ⟨ha, hf⟩
        case rest =>
        as_aux_lemma =>
        clear ha hf
        obtain ⟨ha, hf⟩ := hcut
        obtain ⟨g1, g2, g3, g4, g5⟩ := merge_halves f1 f2 f4 f5 (by have := HN.out; omega) HS1.out HS2.out HF1.out HF2.out
        have HSH := Lib.hid (rotT_shuf arr f1 f2 f4 f5 (by have := HN.out; omega))
        have hTN := HSH.out.len.trans HN.out
        generalize rotT arr i m e = T at ha g1 g2 g3 g4 g5 HSH hTN
        rw [f6] at g2 g3 g5
        have G1 := Lib.hid g1
        have G2 := Lib.hid g2
        have G3 := Lib.hid g3
        have G4 := Lib.hid g4
        have G5 := Lib.hid g5
        have HTN := Lib.hid hTN
        clear g1 g2 g3 g4 g5 hTN
        have hxmd : x < md ∧ md < y := by have := HM.out; omega
        have hie : i ≤ md ∧ md ≤ e := by omega
        go_upto_region 41 with (fail)
        go_cut [199] from 25 (fun s wx => s = .bool (decide (x < i ∧ i < md)) ∧ ArrAt wx b T tail ∧ Fr (fun k => k = b) W wx)
        case first =>
          go_wp2_with fail
          all_goals go_meet
          case rel => exact ⟨boolEq (by omega), ha, hf⟩
          case rel => exact ⟨boolFalse (by omega), ha, hf⟩
        case rest =>
        clear ha hf
        obtain ⟨rfl, ha, hf⟩ := hcut
        go_upto_if 199 with (fail)
        go_cut [] from 25 (fun wx => ∃ T1, Hid (Shuf T T1 x md ∧ SortedOn T1 x md) ∧ ArrAt wx b T1 tail ∧ Fr (fun k => k = b) W wx)
        case first =>
          by_cases hc : x < i ∧ i < md
          · have hd : decide (x < i ∧ i < md) = true := by simp [hc]
            go_wp2_with fail
            refine (HIH.out _ b cap N T tail _ _ _ x i md ha HTN.out hlen rfl rfl rfl hc.1 hc.2 (by omega) (by omega) G1.out G2.out).mono ?_
            rintro ee w' ⟨_, rfl, rfl, hf2, T1, k1, k2, ha2⟩
            go_wp2_with fail
            go_meet
            case rel => exact ⟨T1, Lib.hid ⟨k1, k2⟩, ha2, hf.trans hf2 (fun _ _ h => h)⟩
          · have hd : decide (x < i ∧ i < md) = false := by simpa using hc
            go_wp2_with fail
            go_meet
            case rel =>
              refine ⟨T, Lib.hid ⟨Shuf.refl _ _ _, ?_⟩, ha, hf⟩
              by_cases e1 : x = i
              · rw [e1]; exact G2.out
              · have e2 : i = md := by omega
                rw [← e2]; exact G1.out
        case rest =>
        as_aux_lemma =>
        clear ha hf
        obtain ⟨T1, HT1, ha, hf⟩ := hcut
        have hT1N := Lib.hid (HT1.out.1.len.trans HTN.out)
        have g3 : SortedOn T1 md e := by
          intro p q a1 a2 a3
          rw [getD_of_get (HT1.out.1.post p a1), getD_of_get (HT1.out.1.post q (by omega))]; exact G3.out p q a1 a2 a3
        have g4 : SortedOn T1 e y := by
          intro p q a1 a2 a3
          rw [getD_of_get (HT1.out.1.post p (by omega)), getD_of_get (HT1.out.1.post q (by omega))]; exact G4.out p q a1 a2 a3
        have K3 := Lib.hid g3
        have K4 := Lib.hid g4
        clear g3 g4
        go_upto_region 43 with (fail)
        go_cut [213] from 25 (fun s wx => s = .bool (decide (md < e ∧ e < y)) ∧ ArrAt wx b T1 tail ∧ Fr (fun k => k = b) W wx)
        case first =>
          go_wp2_with fail
          all_goals go_meet
          case rel => exact ⟨boolEq (by omega), ha, hf⟩
          case rel => exact ⟨boolFalse (by omega), ha, hf⟩
        case rest =>
        clear ha hf
        obtain ⟨rfl, ha, hf⟩ := hcut
        have hxlen : y ≤ T.length := by have := HTN.out; omega
        by_cases hc : md < e ∧ e < y
        · have hd : decide (md < e ∧ e < y) = true := by simp [hc]
          go_wp2_with fail
          refine (HIH.out _ b cap N T1 tail _ _ _ md e y ha hT1N.out hlen rfl rfl rfl hc.1 hc.2 (by omega) (by omega) K3.out K4.out).mono ?_
          rintro ee w' ⟨_, rfl, rfl, hf2, T2, k1, k2, ha2⟩
          go_wp2_with fail
          go_end0
          refine ⟨_, rfl, rfl, hf.trans hf2 (fun _ _ h => h), T2, (HSH.out.trans HT1.out.1 (Nat.le_refl _) (by omega)).trans k1 (by omega) (Nat.le_refl _), ?_, ha2⟩
          exact merge_fin (by omega) (by omega) hxlen HT1.out.1 HT1.out.2 k1 k2 G5.out
        · have hd : decide (md < e ∧ e < y) = false := by simpa using hc
          go_wp2_with fail
          go_end0
          refine ⟨_, rfl, rfl, hf, T1, (HSH.out.trans HT1.out.1 (Nat.le_refl _) (by omega)), ?_, ha⟩
          refine merge_fin (T2 := T1) (by omega) (by omega) hxlen HT1.out.1 HT1.out.2 (Shuf.refl _ _ _) ?_ G5.out
          by_cases e1 : md = e
          · rw [e1]; exact K4.out
          · have e2 : e = y := by omega
            rw [← e2]; exact K3.out
theorem symMerge_is : ∀ d, MergeSpec d := by
  intro d
  induction d with
  | zero => intro W b cap N arr tail xi mi yi x m y _ _ _ _ _ _ h1 h2 _ h3; omega
  | succ d IH =>
    intro W b cap N arr tail xi mi yi x m y h hN hlen rfl rfl rfl hxm hmy hy hd s1 s2
    by_cases e1 : m = x + 1
    · subst e1; exact symMerge_A h hN hlen _ _ _ x y rfl (by omega) rfl (by omega) hy s2
    · by_cases e2 : y = m + 1
      · subst e2; exact symMerge_B h hN hlen _ _ _ x rfl m rfl (by omega) (by omega) hy s1
      · exact symMerge_C IH h hN hlen x m y (by omega) (by omega) hy hd s1 s2
end Go.Proofs.YtdcjfpjpboafnaaDoor
