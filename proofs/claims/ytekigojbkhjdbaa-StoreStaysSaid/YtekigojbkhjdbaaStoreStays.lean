/- StoreStays walked. Printed by genstay.py. -/
import Derived.Test.YtekigojbkhjdbaaStayPure
import Derived.Deep.CutRange
import Derived.BigRegion
namespace Go.Proofs.Ytekigojbkhjdbaa
set_option linter.all false
open Go.RowKit Go.Maps
set_option maxRecDepth 100000

set_option maxHeartbeats 16000000 in
theorem StoreStays_is {W : World} {A : Option Addr} {c : Nat} {us : List ActI} (hA : TupsAt actE 4 W A us) (hok : ∀ x ∈ us, ActOk x) (hp : Plain A us.length c) {B : Option Addr} {d : Nat} {bs : List ActI} (hA2 : TupsAt actE 4 W B bs) (hok2 : ∀ x ∈ bs, ActOk x) (hp2 : Plain B bs.length d) {key n : Int} (y2 : wfI key) :
    Calls Try.prog 8 #[.slice A us.length c, .slice B bs.length d, .int .i64 key, .int .i64 n] W (Rets (SamePost true W)) := by
  by_cases hbig : (60 : Int) < (us.length : Int)
  · go_enter Try.func8, Try.ntmps8
    go_wp2_with (go_at_call 27; refine (works40_is _).mono ?_; rintro e w' ⟨_, rfl, rfl, hf⟩)
    refine bodyPost_ret (results_tmp (t := 8) rfl _ _ _) rfl ?_
    exact ⟨_, rfl, rfl, hf⟩
  · by_cases hbig2 : (60 : Int) < (bs.length : Int)
    · go_enter Try.func8, Try.ntmps8
      go_wp2_with (go_at_call 27; refine (works40_is _).mono ?_; rintro e w' ⟨_, rfl, rfl, hf⟩)
      refine bodyPost_ret (results_tmp (t := 8) rfl _ _ _) rfl ?_
      exact ⟨_, rfl, rfl, hf⟩
    · have HAc := Lib.hid hA
      have HOk := Lib.hid hok
      have HBc := Lib.hid hA2
      have HBk := Lib.hid hok2
      clear hA hok hA2 hok2
      go_enter Try.func8, Try.ntmps8
      go_wp2_with (go_at_call 28; refine (SNew_is W (Nat.le_refl _)).mono ?_; rintro e w0 ⟨_, rfl, ct, rfl, hF0, hT0⟩)
      obtain ⟨wi, hwi⟩ : ∃ wi, wi = w0.alloc (.cells #[.slice none 0 0, .int .i64 0] 58) := ⟨_, rfl⟩
      have hFi : Fr0 W wi := hwi ▸ hF0.alloc _
      have hbi : Two wi w0.heap.size 58 (.slice none 0 0) (.int .i64 0) := hwi ▸ Two.new w0 _ _ _
      have hTi := hT0.fr0 (hwi ▸ fr_alloc _ w0 (.cells #[.slice none 0 0, .int .i64 0] 58))
      have hWi := hF0.size
      rw [← hwi]
      clear hwi
      obtain ⟨bT, hbT⟩ : ∃ bT, bT = w0.heap.size := ⟨_, rfl⟩
      rw [← hbT] at hbi hWi ⊢
      clear hbT hT0
      go_loopw [11] (fun v11 wr => ∃ (k : Nat) (P Q : List V4I) (now : Nat) (A1 : Option Addr) (c1 : Nat), k ≤ us.length ∧ v11 = .int .i64 k ∧ Hid (SSt wr W.heap.size ct k P Q now) ∧ Hid (StAt wr W.heap.size A1 c1 (P ++ Q)) ∧ Two wr bT 58 (.slice A1 (P ++ Q).length c1) (.int .i64 (now : Int)) ∧ Fr0 W wr ∧ Hid (SortedP P) ∧ Hid (NotMe Q)) (fun v11 _ => us.length - (intOf v11).toNat)
      case atStart => exact ⟨0, [], [], 0, none, 0, by omega, rfl, Lib.hid hTi, Lib.hid (StAt.nil _ _), hbi, hFi, Lib.hid List.Pairwise.nil, Lib.hid (fun x hx => by cases hx)⟩
      case round =>
        obtain ⟨k, P, Q, now, A1, c1, hk, rfl, HT, HL, hb, hf, HSP, HNM⟩ := hrel
        clear hFi hbi hTi hF0
        by_cases hlt : k < us.length
        · obtain ⟨q, o, rfl, hcW⟩ := HAc.out.at_ hlt
          have hqW := heap_lt_of_cell (hcW 0 (by omega))
          have hc : ∀ i, i < 4 → wr.cell? ⟨q, o + k * 4 + i, none⟩ = some (.int .i64 ((actE us[k]).getD i 0)) := fun i hi => hf.cell (hcW i hi) (fun x => x)
          clear hcW
          have hlt' : (k : Int) < (us.length : Int) := by omega
          have hxo := HOk.out us[k] (List.getElem_mem hlt)
          generalize us[k] = x at hc hxo
          have k0 : wr.cell? ⟨q, o + k * 4, none⟩ = some (.int .i64 x.a) := hc 0 (by omega)
          have k1 : wr.cell? ⟨q, o + k * 4 + 1, none⟩ = some (.int .i64 x.b) := hc 1 (by omega)
          have k2 : wr.cell? ⟨q, o + k * 4 + 2, none⟩ = some (.int .i64 x.c) := hc 2 (by omega)
          have k3 : wr.cell? ⟨q, o + k * 4 + 3, none⟩ = some (.int .i64 x.d) := hc 3 (by omega)
          clear hc
          by_cases hxb : x.b = 99
          · have hne : (x.b != 99) = false := by simp [hxb]
            clear hxb
            go_wp2_with fail
            go_roundw
            case rel => exact ⟨k + 1, P, Q, now, A1, c1, by omega, by go_num, Lib.hid (HT.out.mono (by omega)), HL, hb, hf, HSP, HNM⟩
            case measure => simp [intOf]; omega
          · have hne : (x.b != 99) = true := by simp [hxb]
            have hst := stay_step HT.out.ok.1 HSP.out HNM.out hxb
            clear hxb
            have hsW := hf.size
            obtain ⟨L2, hL2⟩ : ∃ L2, L2 = P2 P Q now x ++ Q2 Q x := ⟨_, rfl⟩
            have HDo : Hid (∀ (w' : World) (f : Fr0 wr w'), Calls Try.prog 29 #[.pointer (some ⟨ct, 0, none⟩), .agg #[.slice A1 (P ++ Q).length c1, .int .i64 (now : Int)], .agg #[.int .i64 x.a, .int .i64 x.b, .int .i64 x.c, .int .i64 x.d]] w' (Rets fun v w'' => ∃ A' c', v = .tuple #[stV A' L2.length c' (n2 now x : Int), .bool true] ∧ Fr (FootS W.heap.size w') w' w'' ∧ SSt w'' W.heap.size ct (k + 1) (P2 P Q now x) (Q2 Q x) (n2 now x) ∧ StAt w'' W.heap.size A' c' L2)) :=
              Lib.hid (fun (w' : World) (f : Fr0 wr w') => (Do40_is (HT.out.fr0 f) (HL.out.fr0 f) (by omega) (by have := f.size; omega) (by have := f.size; omega) hxo).mono (by rintro e w'' ⟨v, rfl, h⟩; rw [hL2]; exact ⟨_, rfl, h⟩))
            have HL2 := Lib.hid hL2
            have HST := Lib.hid hst
            clear hL2 hst hxo
            generalize hP2 : P2 P Q now x = P' at HDo HL2 HST
            generalize hQ2 : Q2 Q x = Q' at HDo HL2 HST
            generalize hn2 : n2 now x = now' at HDo HST
            clear hP2 hQ2 hn2
            generalize P ++ Q = L at HL HDo hb
            have t0 := hb.c0
            have t1 := hb.c1
            have hbl := hb.lt
            go_upto_region 9 with (fail)
            go_region_with (go_at_call 29; refine (HDo.out _ (fr_drew _ _)).mono ?_; rintro e w2 ⟨_, rfl, A2, c2, rfl, hf2, hT2, hL2⟩; have hG2 := FootS.trans' (FootS.of0 (fr_drew (fun _ => False) wr)) hf2; have hz := hb.foot hG2 (by decide) (by decide) (by decide); have z0 := hz.fz 0; have z1 := hz.c0; have z2 := (hz.set0 (.slice A2 L2.length c2)).c1; have z3 := (hz.set0 (.slice A2 L2.length c2)).fz 1)
            all_goals
              (try go_wp2_with fail)
              go_roundw
              case rel =>
                have HE := do_end (W := W) (B := W.heap.size) (bR := bT) hWi (FootS.trans' (FootS.of0 hf) hG2) hT2 (HL2.out ▸ hL2) hz (.slice A2 L2.length c2) (.int .i64 (now' : Int))
                exact ⟨k + 1, P', Q', now', A2, c2, by omega, by go_num, Lib.hid HE.2.1, Lib.hid HE.2.2, by rw [← HL2.out]; exact (hz.set0 _).set1 _, fr_foot (Fr.refl _ W) (Nat.le_refl _) HE.1, Lib.hid HST.out.1, Lib.hid HST.out.2.1⟩
              case measure => simp [intOf]; omega
        · have hge : ¬ (k : Int) < (us.length : Int) := by omega
          obtain ⟨u, hu⟩ : ∃ u, min n (now : Int) = u := ⟨_, rfl⟩
          have HU : Hid (u ≤ (now : Int)) := Lib.hid (by omega)
          have e1 := seen99_eq HNM.out key u (P := P)
          have e2 := seen99_eq HNM.out key (now : Int) (P := P)
          have HSa := Lib.hid (fun (w' : World) (f : Fr0 wr w') => (HT.out.fr0 f).seen_is (by omega) (id := 99) (upto := u) y2)
          have HSb := Lib.hid (fun (w' : World) (f : Fr0 wr w') => (HT.out.fr0 f).seen_is (by omega) (id := 99) (upto := (now : Int)) y2)
          have HN := Lib.hid (fun (w' : World) (f : Fr0 wr w') => (HT.out.fr0 f).now_is)
          rw [e1] at HSa
          rw [e2] at HSb
          obtain ⟨s1, hs1⟩ : ∃ s1, seen99 key u P = s1 := ⟨_, rfl⟩
          obtain ⟨s2, hs2⟩ : ∃ s2, seen99 key (now : Int) P = s2 := ⟨_, rfl⟩
          have hl1 : s1.length ≤ 1000 := by rw [← hs1]; have := seen99_len key u P; have := HT.out.2.1; omega
          have hl2 : s2.length ≤ 1000 := by rw [← hs2]; have := seen99_len key (now : Int) P; have := HT.out.2.1; omega
          have HM2 : Hid (s1 <+: s2) := Lib.hid (by rw [← hs1, ← hs2]; exact seen99_pre key HU.out HSP.out)
          have hFr : Fr0 wr wr := Fr.refl _ _
          rw [hs1] at HSa
          rw [hs2] at HSb
          have HS1 := Lib.hid hs1
          have HS2 := Lib.hid hs2
          have HPO := Lib.hid HT.out.ok.1
          clear hs1 hs2 e1 e2
          go_wp2_with (first
            | (go_at_call 31; (with_reducible refine (HSb.out _ hF3).mono ?_); rintro e wy ⟨v4, rfl, hf4, ho4⟩; obtain ⟨A4, c4, rfl⟩ := own_form ho4; have hF4 := Fr.trans0 hF3 hf4)
            | (go_at_call 31; (with_reducible refine (HSa.out _ hFr).mono ?_); rintro e wx ⟨v3, rfl, hf3, ho3⟩; obtain ⟨A3, c3, rfl⟩ := own_form ho3; have hF3 := Fr.trans0 hFr hf3)
            | (go_at_call 30; refine (HN.out _ hFr).mono ?_; rintro e w' ⟨rfl, rfl⟩))
          skip
          have HT3 : Hid (SSt wy W.heap.size ct (60 + 0) P Q now) := Lib.hid ((HT.out.fr0 hF4).mono (by omega))
          have HL3 : Hid (StAt wy W.heap.size A1 c1 (P ++ Q)) := Lib.hid (HL.out.fr0 hF4)
          have hb3 := hb.fr0 hF4
          have hf3' := hf.trans0 hF4
          have R3 := Lib.hid (own_fr0 ho3 hf4)
          have R4 := Lib.hid ho4
          obtain ⟨P0, hP0⟩ : ∃ P0, P0 = P := ⟨_, rfl⟩
          obtain ⟨now0, hnow0⟩ : ∃ now0, now0 = now := ⟨_, rfl⟩
          have R0 : Hid (∃ R, P = P0 ++ R ∧ (∀ y ∈ R, (now0 : Int) < y.s) ∧ now0 ≤ now) := Lib.hid ⟨[], by rw [hP0]; simp, (fun y hy => by cases hy), by omega⟩
          rw [← hnow0] at hu HU HS2
          rw [← hP0] at HS1 HS2
          rw [← hnow0, ← hP0] at HPO
          rw [← hnow0]
          have HST0 : Hid (Two wy bT 58 (.slice A1 (P ++ Q).length c1) (.int .i64 (now : Int))) := Lib.hid hb3
          clear hFr hP0 hnow0 hb hb3 hf HT HL hf3 hf4 hF3 hF4 ho3 ho4 HSa HSb HN hge
          generalize wr.heap.size = B3 at R3
          generalize wx.heap.size = B4 at R4
          rename World => wo
          go_loopw [15] (fun v15 wr => ∃ (k : Nat) (P Q : List V4I) (now : Nat) (A1 : Option Addr) (c1 : Nat), k ≤ bs.length ∧ v15 = .int .i64 k ∧ Hid (SSt wr W.heap.size ct (60 + k) P Q now) ∧ Hid (StAt wr W.heap.size A1 c1 (P ++ Q)) ∧ Two wr bT 58 (.slice A1 (P ++ Q).length c1) (.int .i64 (now : Int)) ∧ Fr0 W wr ∧ Hid (SortedP P) ∧ Hid (NotMe Q) ∧ Hid (∃ R, P = P0 ++ R ∧ (∀ y ∈ R, (now0 : Int) < y.s) ∧ now0 ≤ now) ∧ Hid (wr.ownsRow B3 3 1 (.slice A3 s1.length c3) s1.length (intsI s1)) ∧ Hid (wr.ownsRow B4 3 1 (.slice A4 s2.length c4) s2.length (intsI s2))) (fun v15 _ => bs.length - (intOf v15).toNat)
          case atStart => exact ⟨0, P, Q, now, A1, c1, by omega, rfl, HT3, HL3, HST0.out, hf3', HSP, HNM, R0, R3, R4⟩
          case round =>
            clear HT3 HL3 HST0 hf3' HSP HNM R0 R3 R4
            obtain ⟨k, P, Q, now, A1, c1, hk, rfl, HT, HL, hb, hf, HSP, HNM, HR, HR3, HR4⟩ := hrel
            by_cases hlt : k < bs.length
            · obtain ⟨q, o, rfl, hcW⟩ := HBc.out.at_ hlt
              have hqW := heap_lt_of_cell (hcW 0 (by omega))
              have hc : ∀ i, i < 4 → wr.cell? ⟨q, o + k * 4 + i, none⟩ = some (.int .i64 ((actE bs[k]).getD i 0)) := fun i hi => hf.cell (hcW i hi) (fun x => x)
              clear hcW
              have hlt' : (k : Int) < (bs.length : Int) := by omega
              have hxo := HBk.out bs[k] (List.getElem_mem hlt)
              generalize bs[k] = x at hc hxo
              have k0 : wr.cell? ⟨q, o + k * 4, none⟩ = some (.int .i64 x.a) := hc 0 (by omega)
              have k1 : wr.cell? ⟨q, o + k * 4 + 1, none⟩ = some (.int .i64 x.b) := hc 1 (by omega)
              have k2 : wr.cell? ⟨q, o + k * 4 + 2, none⟩ = some (.int .i64 x.c) := hc 2 (by omega)
              have k3 : wr.cell? ⟨q, o + k * 4 + 3, none⟩ = some (.int .i64 x.d) := hc 3 (by omega)
              clear hc
              by_cases hxb : x.b = 99
              · have hne : (x.b != 99) = false := by simp [hxb]
                clear hxb
                go_wp2_with fail
                go_roundw
                case rel => exact ⟨k + 1, P, Q, now, A1, c1, by omega, by go_num, Lib.hid (HT.out.mono (by omega)), HL, hb, hf, HSP, HNM, HR, HR3, HR4⟩
                case measure => simp [intOf]; omega
              · have hne : (x.b != 99) = true := by simp [hxb]
                have hst := stay_step HT.out.ok.1 HSP.out HNM.out hxb
                clear hxb
                have hsW := hf.size
                obtain ⟨L2, hL2⟩ : ∃ L2, L2 = P2 P Q now x ++ Q2 Q x := ⟨_, rfl⟩
                have HDo : Hid (∀ (w' : World) (f : Fr0 wr w'), Calls Try.prog 29 #[.pointer (some ⟨ct, 0, none⟩), .agg #[.slice A1 (P ++ Q).length c1, .int .i64 (now : Int)], .agg #[.int .i64 x.a, .int .i64 x.b, .int .i64 x.c, .int .i64 x.d]] w' (Rets fun v w'' => ∃ A' c', v = .tuple #[stV A' L2.length c' (n2 now x : Int), .bool true] ∧ Fr (FootS W.heap.size w') w' w'' ∧ SSt w'' W.heap.size ct (60 + k + 1) (P2 P Q now x) (Q2 Q x) (n2 now x) ∧ StAt w'' W.heap.size A' c' L2)) :=
                  Lib.hid (fun (w' : World) (f : Fr0 wr w') => (Do40_is (HT.out.fr0 f) (HL.out.fr0 f) (by omega) (by have := f.size; omega) (by have := f.size; omega) hxo).mono (by rintro e w'' ⟨v, rfl, h⟩; rw [hL2]; exact ⟨_, rfl, h⟩))
                have HL2 := Lib.hid hL2
                have HST := Lib.hid hst
                clear hL2 hst hxo
                generalize hP2 : P2 P Q now x = P' at HDo HL2 HST
                generalize hQ2 : Q2 Q x = Q' at HDo HL2 HST
                generalize hn2 : n2 now x = now' at HDo HST
                clear hP2 hQ2 hn2
                generalize P ++ Q = L at HL HDo hb
                have t0 := hb.c0
                have t1 := hb.c1
                have hbl := hb.lt
                go_upto_region 16 with (fail)
                go_region_with (go_at_call 29; refine (HDo.out _ (fr_drew _ _)).mono ?_; rintro e w2 ⟨_, rfl, A2, c2, rfl, hf2, hT2, hL2⟩; have hG2 := FootS.trans' (FootS.of0 (fr_drew (fun _ => False) wr)) hf2; have hz := hb.foot hG2 (by decide) (by decide) (by decide); have z0 := hz.fz 0; have z1 := hz.c0; have z2 := (hz.set0 (.slice A2 L2.length c2)).c1; have z3 := (hz.set0 (.slice A2 L2.length c2)).fz 1)
                all_goals
                  (try go_wp2_with fail)
                  go_roundw
                  case rel =>
                    have HE := do_end (W := W) (B := W.heap.size) (bR := bT) hWi (FootS.trans' (FootS.of0 hf) hG2) hT2 (HL2.out ▸ hL2) hz (.slice A2 L2.length c2) (.int .i64 (now' : Int))
                    exact ⟨k + 1, P', Q', now', A2, c2, by omega, by go_num, Lib.hid HE.2.1, Lib.hid HE.2.2, by rw [← HL2.out]; exact (hz.set0 _).set1 _, fr_foot (Fr.refl _ W) (Nat.le_refl _) HE.1, Lib.hid HST.out.1, Lib.hid HST.out.2.1, Lib.hid (grow_R HR.out HST.out.2.2.1 HST.out.2.2.2), Lib.hid (row_end HR3.out hG2 hz _ _), Lib.hid (row_end HR4.out hG2 hz _ _)⟩
                  case measure => simp [intOf]; omega
            · have hge : ¬ (k : Int) < (bs.length : Int) := by omega
              obtain ⟨R, hR, hRs, hn0⟩ := HR.out
              have e1 := seen99_eq HNM.out key u (P := P)
              have e2 := seen99_eq HNM.out key (now0 : Int) (P := P)
              have e3 := seen99_eq HNM.out key (now : Int) (P := P)
              have m1 : seen99 key u P = s1 := by rw [hR, seen99_more hRs key u HU.out]; exact HS1.out
              have m2 : seen99 key (now0 : Int) P = s2 := by rw [hR, seen99_more hRs key _ (Int.le_refl _)]; exact HS2.out
              have m3 : s2 <+: seen99 key (now : Int) P := by rw [← HS2.out, hR]; exact seen99_whole HPO.out hn0 key
              have hl3 := seen99_len key (now : Int) P
              have hPl := HT.out.2.1
              have HSa := Lib.hid (fun (w' : World) (f : Fr0 wr w') => (HT.out.fr0 f).seen_is (by omega) (id := 99) (upto := u) y2)
              have HSb := Lib.hid (fun (w' : World) (f : Fr0 wr w') => (HT.out.fr0 f).seen_is (by omega) (id := 99) (upto := (now0 : Int)) y2)
              have HSc := Lib.hid (fun (w' : World) (f : Fr0 wr w') => (HT.out.fr0 f).seen_is (by omega) (id := 99) (upto := (now : Int)) y2)
              have HN := Lib.hid (fun (w' : World) (f : Fr0 wr w') => (HT.out.fr0 f).now_is)
              rw [e1, m1] at HSa
              rw [e2, m2] at HSb
              rw [e3] at HSc
              generalize seen99 key (now : Int) P = s3 at HSc m3 hl3
              have HM3 := Lib.hid m3
              have hl3' : s3.length ≤ 1000 := by omega
              have hFr : Fr0 wr wr := Fr.refl _ _
              clear e1 e2 e3 m1 m2 m3 hR hRs hl3
              go_wp2_with (first
                | (go_at_call 27; refine (works40_is _).mono ?_; rintro e wZ ⟨_, rfl, rfl, hfZ⟩; have hFZ := Fr.trans0 hFY hfZ)
                | (go_at_call 39; (with_reducible refine (Is15_is (own_intsI (own_fr0 HR4.out hFW) (by omega)) (own_intsI hoW (by omega)) (ho_le hoW) HM3.out).mono ?_); rintro e wY ⟨_, rfl, rfl, hfY⟩; have hFY := Fr.trans0 hFW hfY)
                | (go_at_call 31; (with_reducible refine (HSc.out _ hFV).mono ?_); rintro e wW ⟨vW, rfl, hfW, hoW⟩; obtain ⟨AW, cW, rfl⟩ := own_form hoW; have hFW := Fr.trans0 hFV hfW)
                | (go_at_call 30; refine (HN.out _ hFV).mono ?_; rintro e w' ⟨rfl, rfl⟩)
                | (go_at_call 39; (with_reducible refine (Is15_is (own_intsI (own_fr0 HR3.out hFU) (by omega)) (own_intsI (own_fr0 HR4.out hFU) (by omega)) (ho_le HR4.out) HM2.out).mono ?_); rintro e wV ⟨_, rfl, rfl, hfV⟩; have hFV := Fr.trans0 hFU hfV)
                | (go_at_call 21; (with_reducible refine (SameO_is hoT (own_fr0 HR4.out hFT) (by omega)).mono ?_); rintro e wU ⟨_, rfl, rfl, hfU⟩; have hFU := Fr.trans0 hFT hfU)
                | (go_at_call 31; (with_reducible refine (HSb.out _ hFX).mono ?_); rintro e wT ⟨vT, rfl, hfT, hoT⟩; obtain ⟨AT, cT, rfl⟩ := own_form hoT; have hFT := Fr.trans0 hFX hfT)
                | (go_at_call 21; (with_reducible refine (SameO_is hoO (own_fr0 HR3.out hFO) (by omega)).mono ?_); rintro e wX ⟨_, rfl, rfl, hfX⟩; have hFX := Fr.trans0 hFO hfX)
                | (go_at_call 31; (with_reducible refine (HSa.out _ hFr).mono ?_); rintro e wO ⟨vO, rfl, hfO, hoO⟩; obtain ⟨AO, cO, rfl⟩ := own_form hoO; have hFO := Fr.trans0 hFr hfO))
              refine bodyPost_ret (results_tmp (t := 8) rfl _ _ _) rfl ?_
              exact ⟨_, rfl, rfl, hf.trans0 hFZ⟩
end Go.Proofs.Ytekigojbkhjdbaa
