/- StorePlays walked. -/
import Derived.Test.YtekigojbkhjdbaaStorePure
import Derived.Deep.CutRange
namespace Go.Proofs.Ytekigojbkhjdbaa
set_option linter.all false
open Go.RowKit Go.Maps
set_option maxRecDepth 100000

set_option maxHeartbeats 16000000 in
theorem StorePlays_is {W : World} {A : Option Addr} {c : Nat} {acts : List ActI} (hA : TupsAt actE 4 W A acts) (hok : ∀ x ∈ acts, ActOk x) (hp : Plain A acts.length c) {id key n : Int} (y1 : wfI id) (y2 : wfI key) :
    Calls Try.prog 7 #[.slice A acts.length c, .int .i64 id, .int .i64 key, .int .i64 n] W (Rets (SamePost true W)) := by
  by_cases hbig : (60 : Int) < (acts.length : Int)
  · go_enter Try.func7, Try.ntmps7
    go_wp2_with (go_at_call 27; refine (works40_is W).mono ?_; rintro e w' ⟨_, rfl, rfl, hf⟩)
    refine bodyPost_ret (results_tmp (t := 8) rfl _ _ _) rfl ?_
    exact ⟨_, rfl, rfl, hf⟩
  · have HAc := Lib.hid hA
    have HOk := Lib.hid hok
    clear hA hok
    go_enter Try.func7, Try.ntmps7
    go_wp2_with (go_at_call 28; refine (SNew_is W (Nat.le_refl _)).mono ?_; rintro e w0 ⟨_, rfl, ct, rfl, hF0, hT0⟩)
    obtain ⟨wi, hwi⟩ : ∃ wi, wi = w0.alloc (.cells #[.slice none 0 0, .int .i64 0] 58) := ⟨_, rfl⟩
    have hFi : Fr0 W wi := hwi ▸ hF0.alloc _
    have hbi : Two wi w0.heap.size 58 (.slice none 0 0) (.int .i64 0) := hwi ▸ Two.new w0 _ _ _
    have hTi := hT0.fr0 (hwi ▸ fr_alloc _ w0 (.cells #[.slice none 0 0, .int .i64 0] 58))
    have hWi := hF0.size
    rw [← hwi]
    clear hwi
    obtain ⟨bT, hbT⟩ : ∃ bT, bT = w0.heap.size := ⟨_, rfl⟩
    rw [← hbT] at hbi hWi ⊢
    clear hbT hT0
    go_loopw [11] (fun v11 wr => ∃ (k : Nat) (P Q : List V4I) (now : Nat) (A1 : Option Addr) (c1 : Nat), k ≤ acts.length ∧ v11 = .int .i64 k ∧ Hid (SSt wr W.heap.size ct k P Q now) ∧ Hid (StAt wr W.heap.size A1 c1 (P ++ Q)) ∧ Two wr bT 58 (.slice A1 (P ++ Q).length c1) (.int .i64 (now : Int)) ∧ Fr0 W wr) (fun v11 _ => acts.length - (intOf v11).toNat)
    case atStart => exact ⟨0, [], [], 0, none, 0, by omega, rfl, Lib.hid hTi, Lib.hid (StAt.nil _ _), hbi, hFi⟩
    case round =>
      obtain ⟨k, P, Q, now, A1, c1, hk, rfl, HT, HL, hb, hf⟩ := hrel
      clear hFi hbi hTi
      by_cases hlt : k < acts.length
      · obtain ⟨q, o, rfl, hcW⟩ := HAc.out.at_ hlt
        have hqW := heap_lt_of_cell (hcW 0 (by omega))
        have hc : ∀ i, i < 4 → wr.cell? ⟨q, o + k * 4 + i, none⟩ = some (.int .i64 ((actE acts[k]).getD i 0)) := fun i hi => hf.cell (hcW i hi) (fun x => x)
        clear hcW
        have hlt' : (k : Int) < (acts.length : Int) := by omega
        have hxo := HOk.out acts[k] (List.getElem_mem hlt)
        generalize acts[k] = x at hc hxo
        have k0 : wr.cell? ⟨q, o + k * 4, none⟩ = some (.int .i64 x.a) := hc 0 (by omega)
        have k1 : wr.cell? ⟨q, o + k * 4 + 1, none⟩ = some (.int .i64 x.b) := hc 1 (by omega)
        have k2 : wr.cell? ⟨q, o + k * 4 + 2, none⟩ = some (.int .i64 x.c) := hc 2 (by omega)
        have k3 : wr.cell? ⟨q, o + k * 4 + 3, none⟩ = some (.int .i64 x.d) := hc 3 (by omega)
        have hsW := hf.size
        have hk6 : k ≤ 60 := by omega
        have hll : (P ++ Q).length ≤ 60 := by rw [List.length_append]; have := HT.out.2.1; omega
        obtain ⟨L2, hL2⟩ : ∃ L2, L2 = P2 P Q now x ++ Q2 Q x := ⟨_, rfl⟩
        have HDo : Hid (∀ (w' : World) (f : Fr0 wr w'), Calls Try.prog 29 #[.pointer (some ⟨ct, 0, none⟩), .agg #[.slice A1 (P ++ Q).length c1, .int .i64 (now : Int)], .agg #[.int .i64 x.a, .int .i64 x.b, .int .i64 x.c, .int .i64 x.d]] w' (Rets fun v w'' => ∃ A' c', v = .tuple #[stV A' L2.length c' (n2 now x : Int), .bool true] ∧ Fr (FootS W.heap.size w') w' w'' ∧ SSt w'' W.heap.size ct (k + 1) (P2 P Q now x) (Q2 Q x) (n2 now x) ∧ StAt w'' W.heap.size A' c' L2)) :=
          Lib.hid (fun (w' : World) (f : Fr0 wr w') => (Do40_is (HT.out.fr0 f) (HL.out.fr0 f) hk6 (by have := f.size; omega) (by have := f.size; omega) hxo).mono (by rintro e w'' ⟨v, rfl, h⟩; rw [hL2]; exact ⟨_, rfl, h⟩))
        have HL2 := Lib.hid hL2
        clear hL2
        generalize hP2 : P2 P Q now x = P' at HDo HL2
        generalize hQ2 : Q2 Q x = Q' at HDo HL2
        generalize hn2 : n2 now x = now' at HDo
        generalize P ++ Q = L at HL HDo hb hll
        have t0 := hb.c0
        have t1 := hb.c1
        have hbl := hb.lt
        have KS := Lib.hid (show ∀ w', Fr (FootS W.heap.size wr) wr w' → (Fr (FootS W.heap.size wr) wr w' ∧ w'.cell? ⟨bT, 0, none⟩ = some (.slice A1 L.length c1) ∧ w'.cell? ⟨bT, 1, none⟩ = some (.int .i64 (now : Int)) ∧ w'.cell? ⟨q, o + k * 4, none⟩ = some (.int .i64 x.a) ∧ w'.cell? ⟨q, o + k * 4 + 1, none⟩ = some (.int .i64 x.b) ∧ w'.cell? ⟨q, o + k * 4 + 2, none⟩ = some (.int .i64 x.c) ∧ w'.cell? ⟨q, o + k * 4 + 3, none⟩ = some (.int .i64 x.d) ∧ Two w' bT 58 (.slice A1 L.length c1) (.int .i64 (now : Int))) from fun w' f => by
          have h2 := hb.foot f (by decide) (by decide) (by decide)
          have hq : ¬ FootS W.heap.size wr q := fun h => by have := h.1; omega
          exact ⟨f, h2.c0, h2.c1, f.cell k0 hq, f.cell k1 hq, f.cell k2 hq, f.cell k3 hq, h2⟩)
        have HBZ := Lib.hid (fun w : World => Two.new w 58 (.slice none 0 0) (.int .i64 0))
        go_upto_region 8 with (fail)
        go_cut [12, 13] from 25 to 34 (fun s12 s13 wx => ∃ (k12 c2 : Nat) (A2 : Option Addr), s12 = .pointer (some ⟨k12, 0, none⟩) ∧ s13 = .bool true ∧ wr.heap.size ≤ k12 ∧ Two wx k12 58 (.slice A2 L2.length c2) (.int .i64 (now' : Int)) ∧ Hid (SSt wx W.heap.size ct (k + 1) P' Q' now') ∧ Hid (StAt wx W.heap.size A2 c2 L2) ∧ Fr (FootS W.heap.size wr) wr wx)
        case first =>
          go_region_held_law (fun w' => Fr (FootS W.heap.size wr) wr w' ∧ w'.cell? ⟨bT, 0, none⟩ = some (.slice A1 L.length c1) ∧ w'.cell? ⟨bT, 1, none⟩ = some (.int .i64 (now : Int)) ∧ w'.cell? ⟨q, o + k * 4, none⟩ = some (.int .i64 x.a) ∧ w'.cell? ⟨q, o + k * 4 + 1, none⟩ = some (.int .i64 x.b) ∧ w'.cell? ⟨q, o + k * 4 + 2, none⟩ = some (.int .i64 x.c) ∧ w'.cell? ⟨q, o + k * 4 + 3, none⟩ = some (.int .i64 x.d) ∧ Two w' bT 58 (.slice A1 L.length c1) (.int .i64 (now : Int)))
            ((refine KS.out _ ?_; first | exact FootS.of0 (fr_drew _ _) | assumption | exact And.left (by assumption) | exact Fr.alloc (And.left (by assumption)) _ | exact Fr.alloc (by assumption) _ | exact Fr.setCell (Fr.setCell (And.left (by assumption)) _ _ (fun h => absurd h (Nat.lt_irrefl _))) _ _ (fun h => absurd h (Nat.lt_irrefl _)) | exact Fr.setCell (Fr.setCell hG2 _ _ (fun h => absurd h (Nat.lt_irrefl _))) _ _ (fun h => absurd h (Nat.lt_irrefl _))))
            (first
              | (go_at_call 29; refine (HDo.out _ (by first | exact fr_drew _ _ | exact (fr_drew _ _).alloc _ | exact (fr_alloc _ _ _).drew | exact fr_alloc _ _ _)).mono ?_; rintro e w2 ⟨_, rfl, A2, c2, rfl, hf2, hT2, hL2⟩; have hG2 := FootS.trans' (FootS.of0 (by first | exact fr_drew (fun _ => False) wr | exact (fr_drew _ wr).alloc _ | exact (fr_alloc (fun _ => False) wr _).drew | exact fr_alloc (fun _ => False) wr _)) hf2; have hs2 := hf2.size; (try simp at hs2); first | (have hz := Two.foot ((HBZ.out wr).fr0 (fr_drew _ _)) hf2 (by decide) (by decide) (by decide); have z0 := hz.c0; have z1 := hz.fz 0; have z2 := (hz.set0 (.slice A2 L2.length c2)).c1; have z3 := (hz.set0 (.slice A2 L2.length c2)).fz 1) | skip))
          · go_wp2_with fail
            go_meet
            exact ⟨w2.heap.size, c2, A2, rfl, rfl, hs2, Two.new w2 _ _ _, Lib.hid (hT2.fr0 (fr_alloc _ _ _)), Lib.hid (hL2.fr0 (fr_alloc _ _ _)), hG2.trans0 (fr_alloc _ _ _)⟩
          · go_wp2_with fail
            go_meet
            have HE := do_end (W := wr) (B := W.heap.size) (bR := wr.heap.size) (Nat.le_refl _) hG2 hT2 (HL2.out ▸ hL2) hz (.slice A2 L2.length c2) (.int .i64 (now' : Int))
            exact ⟨wr.heap.size, c2, A2, rfl, rfl, Nat.le_refl _, (hz.set0 _).set1 _, Lib.hid HE.2.1, Lib.hid (HL2.out ▸ HE.2.2), HE.1⟩
        case rest =>
          obtain ⟨k12, c2, A2, rfl, rfl, hk12, hb12, HT2, HLt, hG⟩ := hcut
          obtain ⟨w9, hw9⟩ : ∃ w9, w9 = wc := ⟨_, rfl⟩
          subst hw9
          have hbT := hb.foot hG (by decide) (by decide) (by decide)
          have t0' := hbT.c0
          have z0 := hbT.fz 0
          have z1 := (hbT.set0 (.slice A2 L2.length c2)).c1
          have z2 := (hbT.set0 (.slice A2 L2.length c2)).fz 1
          have u0 := hb12.c0
          have u1 := hb12.c1
          obtain ⟨w10, hw10⟩ : ∃ w10, w10 = (w9.setCell ⟨bT, 0, none⟩ (.slice A2 L2.length c2)).setCell ⟨bT, 1, none⟩ (.int .i64 (now' : Int)) := ⟨_, rfl⟩
          have HE := do_end (W := W) (B := W.heap.size) (bR := bT) hWi (FootS.trans' (FootS.of0 hf) hG) HT2.out (HL2.out ▸ HLt.out) hbT (.slice A2 L2.length c2) (.int .i64 (now' : Int))
          have hb10 := (hbT.set0 (.slice A2 L2.length c2)).set1 (.int .i64 (now' : Int))
          rw [← hw10] at HE hb10
          obtain ⟨hFF, hT10, hL10⟩ := HE
          have hF10 := fr_foot (Fr.refl _ W) (Nat.le_refl _) hFF
          obtain ⟨hpo, hqo⟩ := hT10.ok
          have hlen2 := hT10.2.1
          have hLl2 : L2.length ≤ 61 := by rw [HL2.out, List.length_append]; omega
          rw [← HL2.out] at hL10
          have e1 := seen_split hpo hqo id key n
          have e2 := all_split (Q := Q') hpo key
          have e3 := chg_split hpo hqo key n
          have e4 := pen_split hpo hqo id
          rw [← HL2.out] at e1 e2 e3 e4
          have HS1 := Lib.hid (fun (w' : World) (f : Fr0 w10 w') => (hT10.fr0 f).seen_is (by omega) (id := id) (upto := n) y2)
          have HS2 := Lib.hid (fun (w' : World) (f : Fr0 w10 w') => Seen40_is (c := c2) ((hL10.fr0 f).v4 (by omega)) (by omega) (now' : Int) id key n)
          have HA1 := Lib.hid (fun (w' : World) (f : Fr0 w10 w') => (hT10.fr0 f).all_is (by omega) y2)
          have HA2 := Lib.hid (fun (w' : World) (f : Fr0 w10 w') => All40_is (c := c2) ((hL10.fr0 f).v4 (by omega)) (by omega) (now' : Int) key)
          have HC1 := Lib.hid (fun (w' : World) (f : Fr0 w10 w') => (hT10.fr0 f).changed_is (by omega) y2 n)
          have HC2 := Lib.hid (fun (w' : World) (f : Fr0 w10 w') => Changed40_is (c := c2) ((hL10.fr0 f).v4 (by omega)) (by omega) (now' : Int) key n)
          have HP1 := Lib.hid (fun (w' : World) (f : Fr0 w10 w') => (hT10.fr0 f).pending_is (by omega) id)
          have HP2 := Lib.hid (fun (w' : World) (f : Fr0 w10 w') => Pending40_is (c := c2) ((hL10.fr0 f).v4 (by omega)) (by omega) (now' : Int) id)
          have HN1 := Lib.hid (fun (w' : World) (f : Fr0 w10 w') => (hT10.fr0 f).now_is)
          rw [← e1] at HS1
          rw [← e2] at HA1
          rw [← e3] at HC1
          rw [← e4] at HP1
          have l1 := selV_len (seenP id key n) (fun x => x.v) L2
          have l2 := selV_len (keyP key) (fun x => x.v) L2
          have l4 : (ofI (selV (penP id) (fun x => x.k) L2)).length ≤ L2.length := Nat.le_trans (len_ofI _) (selV_len _ _ _)
          generalize selV (seenP id key n) (fun x => x.v) L2 = s1 at HS1 HS2 l1
          generalize selV (keyP key) (fun x => x.v) L2 = s2 at HA1 HA2 l2
          generalize L2.any (chgP key n) = s3 at HC1 HC2
          generalize ofI (selV (penP id) (fun x => x.k) L2) = s4 at HP1 HP2 l4
          have HT10 := Lib.hid hT10
          have HL10 := Lib.hid hL10
          have HW10 := Lib.hid hw10
          have t2 := hb10.c0
          have t3 := hb10.c1
          have KS := Lib.hid (show ∀ w', Fr0 w10 w' → (Fr0 w10 w' ∧ w'.cell? ⟨bT, 0, none⟩ = some (.slice A2 L2.length c2) ∧ w'.cell? ⟨bT, 1, none⟩ = some (.int .i64 (now' : Int))) from fun w' f => ⟨f, f.cell t2 (fun x => x), f.cell t3 (fun x => x)⟩)
          clear e1 e2 e3 e4 hpo hqo hT10 hL10 hw10 hFF HDo HT HL HBZ hb12
          go_wp2_with fail
          rw [← HW10.out]
          go_region_held_law (fun w' => Fr0 w10 w' ∧ w'.cell? ⟨bT, 0, none⟩ = some (.slice A2 L2.length c2) ∧ w'.cell? ⟨bT, 1, none⟩ = some (.int .i64 (now' : Int)))
            ((refine KS.out _ ?_; first | exact fr_drew _ _ | assumption | exact And.left (by assumption)))
            (first
              | (go_at_call 21; (with_reducible refine (SameO_is (own_fr0 hoD hfE) hoE (by omega)).mono ?_); rintro e wF ⟨_, rfl, rfl, hfF⟩; have hFF := Fr.trans0 (And.left (by assumption)) hfF)
              | (go_at_call 38; refine (HP2.out _ (And.left (by assumption))).mono ?_; rintro e wE ⟨vE, rfl, hfE, hoE⟩; obtain ⟨AE, cE, rfl⟩ := own_form hoE; have hFE := Fr.trans0 (And.left (by assumption)) hfE)
              | (go_at_call 37; refine (HP1.out _ (And.left (by assumption))).mono ?_; rintro e wD ⟨vD, rfl, hfD, hoD⟩; obtain ⟨AD, cD, rfl⟩ := own_form hoD; have hFD := Fr.trans0 (And.left (by assumption)) hfD)
              | (go_at_call 36; refine (HC2.out _ (And.left (by assumption))).mono ?_; rintro e wC ⟨_, rfl, rfl, hfC⟩; have hFC := Fr.trans0 (And.left (by assumption)) hfC)
              | (go_at_call 35; refine (HC1.out _ (And.left (by assumption))).mono ?_; rintro e wB ⟨_, rfl, rfl, hfB⟩; have hFB := Fr.trans0 (And.left (by assumption)) hfB)
              | (go_at_call 21; (with_reducible refine (SameO_is (own_fr0 hoX hfY) hoY (by omega)).mono ?_); rintro e wA ⟨_, rfl, rfl, hfA⟩; have hFA := Fr.trans0 (And.left (by assumption)) hfA)
              | (go_at_call 34; refine (HA2.out _ (And.left (by assumption))).mono ?_; rintro e wY ⟨vY, rfl, hfY, hoY⟩; obtain ⟨AY, cY, rfl⟩ := own_form hoY; have hFY := Fr.trans0 (And.left (by assumption)) hfY)
              | (go_at_call 33; refine (HA1.out _ (And.left (by assumption))).mono ?_; rintro e wX ⟨vX, rfl, hfX, hoX⟩; obtain ⟨AX, cX, rfl⟩ := own_form hoX; have hFX := Fr.trans0 (And.left (by assumption)) hfX)
              | (go_at_call 21; (with_reducible refine (SameO_is (own_fr0 hoU hfV) hoV (by omega)).mono ?_); rintro e wZ ⟨_, rfl, rfl, hfZ⟩; have hFZ := Fr.trans0 (And.left (by assumption)) hfZ)
              | (go_at_call 32; refine (HS2.out _ (And.left (by assumption))).mono ?_; rintro e wV ⟨vV, rfl, hfV, hoV⟩; obtain ⟨AV, cV, rfl⟩ := own_form hoV; have hFV := Fr.trans0 (And.left (by assumption)) hfV)
              | (go_at_call 31; refine (HS1.out _ (And.left (by assumption))).mono ?_; rintro e wU ⟨vU, rfl, hfU, hoU⟩; obtain ⟨AU, cU, rfl⟩ := own_form hoU; have hFU := Fr.trans0 (And.left (by assumption)) hfU)
              | (go_at_call 30; refine (HN1.out _ (And.left (by assumption))).mono ?_; rintro e w' ⟨rfl, rfl⟩))
          go_wp2_with fail
          go_roundw
          case rel => exact ⟨k + 1, P', Q', now', A2, c2, by omega, by go_num, Lib.hid (HT10.out.fr0 hFF), Lib.hid (HL2.out ▸ HL10.out.fr0 hFF), by rw [← HL2.out]; exact hb10.fr0 hFF, hF10.trans0 hFF⟩
          case measure => simp [intOf]; omega
      · have hge : ¬ (k : Int) < (acts.length : Int) := by omega
        have HN := Lib.hid (fun (w' : World) (f : Fr0 wr w') => (HT.out.fr0 f).now_is)
        have t0 := hb.c0
        have t1 := hb.c1
        generalize (P ++ Q).length = LL at hb t0
        have KS := Lib.hid (show ∀ w', Fr0 wr w' → (Fr0 wr w' ∧ w'.cell? ⟨bT, 1, none⟩ = some (.int .i64 (now : Int))) from fun w' f => ⟨f, f.cell t1 (fun x => x)⟩)
        go_wp2_with fail
        go_region_held_law (fun w' => Fr0 wr w' ∧ w'.cell? ⟨bT, 1, none⟩ = some (.int .i64 (now : Int)))
          ((refine KS.out _ ?_; first | exact fr_drew _ _ | assumption | exact And.left (by assumption)))
          (first
            | (go_at_call 27; refine (works40_is _).mono ?_; rintro e w7 ⟨_, rfl, rfl, hf7⟩; have hF7 := Fr.trans0 (And.left (by assumption)) hf7)
            | (go_at_call 30; refine (HN.out _ (And.left (by assumption))).mono ?_; rintro e w' ⟨rfl, rfl⟩))
        go_wp2_with fail
        refine bodyPost_ret (results_tmp (t := 8) rfl _ _ _) rfl ?_
        exact ⟨_, rfl, rfl, hf.trans0 hF7⟩
end Go.Proofs.Ytekigojbkhjdbaa
