/- LocksPlays walked: for every row of acts, and any numbers, it returns true. -/
import Derived.Test.YtekigojbkhjdbaaWorks39
namespace Go.Proofs.Ytekigojbkhjdbaa
set_option linter.all false
open Go.RowKit Go.Maps
set_option maxRecDepth 100000

set_option maxHeartbeats 8000000 in
theorem LocksPlays_is {W : World} {A : Option Addr} {c : Nat} {acts : List ActI} (hA : TupsAt actE 4 W A acts) (hok : ∀ x ∈ acts, ActOk x) (hp : Plain A acts.length c) {id key mode : Int} (y1 : wfI id) (y2 : wfI key) :
    Calls Try.prog 4 #[.slice A acts.length c, .int .i64 id, .int .i64 key, .int .i64 mode] W (Rets (SamePost true W)) := by
  by_cases hbig : (60 : Int) < (acts.length : Int)
  · go_enter Try.func4, Try.ntmps4
    go_wp2_with (go_at_call 16; refine (works39_is W).mono ?_; rintro e w' ⟨_, rfl, rfl, hf⟩)
    refine bodyPost_ret (results_tmp (t := 8) rfl _ _ _) rfl ?_
    exact ⟨_, rfl, rfl, hf⟩
  · have HAc := Lib.hid hA
    have HOk := Lib.hid hok
    clear hA hok
    go_enter Try.func4, Try.ntmps4
    go_wp2_with (go_at_call 17; refine (TNew_is W).mono ?_; rintro e w0 ⟨_, rfl, ct, b, rfl, hF0, hbW, hT0⟩)
    go_loopw [10, 11] (fun v10 v11 wr => ∃ (k : Nat) (L : List LockI) (A1 : Option Addr) (c1 : Nat), k ≤ acts.length ∧ v11 = .int .i64 k ∧ v10 = .slice A1 L.length c1 ∧ Hid (TabIs wr ct b k L) ∧ Hid (LocksAt wr A1 L) ∧ Hid (Once39 L) ∧ L.length ≤ k ∧ Fr0 W wr) (fun _ v11 _ => acts.length - (intOf v11).toNat)
    case atStart => exact ⟨0, [], none, 0, by omega, rfl, rfl, Lib.hid hT0, Lib.hid (TupsAt.nil _ _), Lib.hid once_nil, by simp, hF0⟩
    case round =>
      obtain ⟨k, L, A1, c1, hk, rfl, rfl, HT, HL, HO, hLl, hf⟩ := hrel
      by_cases hlt : k < acts.length
      · obtain ⟨q, o, rfl, hc⟩ := (HAc.out.fr0 hf).at_ hlt
        have hlt' : (k : Int) < (acts.length : Int) := by omega
        have hxo := HOk.out acts[k] (List.getElem_mem hlt)
        generalize acts[k] = x at hc hxo
        have k0 : wr.cell? ⟨q, o + k * 4, none⟩ = some (.int .i64 x.a) := hc 0 (by omega)
        have k1 : wr.cell? ⟨q, o + k * 4 + 1, none⟩ = some (.int .i64 x.b) := hc 1 (by omega)
        have k2 : wr.cell? ⟨q, o + k * 4 + 2, none⟩ = some (.int .i64 x.c) := hc 2 (by omega)
        have k3 : wr.cell? ⟨q, o + k * 4 + 3, none⟩ = some (.int .i64 x.d) := hc 3 (by omega)
        have HDo := Lib.hid (Do39_is (cl := c1) HT.out HL.out HO.out (by omega) (by omega) hxo)
        have HO2 := Lib.hid (doL_once HO.out x)
        have hl2 := doL_len L x
        clear hc HO
        generalize hLL : doL L x = L2 at HDo HO2 hl2
        have hl3 : L2.length ≤ 61 := by omega
        have hkl : (ofI (keysR L2 id)).length ≤ 1000 := Nat.le_trans (len_ofI _) (Nat.le_trans (keysR_len _ _) (by omega))
        have hbl : (blkL L2 id key mode).length ≤ 1000 := by
          unfold blkL
          split
          · exact Nat.le_trans (len_ofI _) (Nat.le_trans (blkR_len _ _ _ _) (by omega))
          · simp
        clear hLL
        have hk6 : k ≤ 60 := by omega
        go_wp2_with (first
          | (go_at_call 21; (with_reducible refine (SameO_is (own_fr0 ho7 hf8) ho8 (by omega)).mono ?_); rintro e w9 ⟨_, rfl, rfl, hf9⟩; have hG9 := hG8.trans0 hf9)
          | (go_at_call 25; refine (Blocks39_is (c := c2) (hL2.fr0 hG7) (by omega) id key mode).mono ?_; rintro e w8 ⟨v8, rfl, hf8, ho8⟩; obtain ⟨A8, c8, rfl⟩ := own_form ho8; have hG8 := hG7.trans0 hf8)
          | (go_at_call 24; refine (TBlocks_is (hT2.fr0 hG6) HO2.out (by omega) y1 y2).mono ?_; rintro e w7 ⟨v7, rfl, hf7, ho7⟩; obtain ⟨A7, c7, rfl⟩ := own_form ho7; have hG7 := hG6.trans0 hf7)
          | (go_at_call 21; (with_reducible refine (SameO_is (own_fr0 ho4 hf5) ho5 (by omega)).mono ?_); rintro e w6 ⟨_, rfl, rfl, hf6⟩; have hG6 := hG5.trans0 hf6)
          | (go_at_call 23; refine (Keys39_is (c := c2) (hL2.fr0 hG4) (by omega) id).mono ?_; rintro e w5 ⟨v5, rfl, hf5, ho5⟩; obtain ⟨A5, c5, rfl⟩ := own_form ho5; have hG5 := hG4.trans0 hf5)
          | (go_at_call 22; refine (TKeys_is (hT2.fr0 hG3) HO2.out (by omega) y1).mono ?_; rintro e w4 ⟨v4, rfl, hf4, ho4⟩; obtain ⟨A4, c4, rfl⟩ := own_form ho4; have hG4 := hG3.trans0 hf4)
          | (go_at_call 20; refine (Holds39_is (c := c2) hL2 (by omega) id key).mono ?_; rintro e w3 ⟨_, rfl, rfl, hG3⟩)
          | (go_at_call 19; refine (THolds_is hT2 y1 y2).mono ?_; rintro e w' ⟨rfl, rfl⟩)
          | (go_at_call 18; refine (HDo.out).mono ?_; rintro e w2 ⟨_, rfl, A2, c2, rfl, hf2, hT2, hL2⟩; have hF2 := fr_new hf hbW hf2))
        go_roundw
        case rel => exact ⟨k + 1, L2, A2, c2, by omega, by go_num, rfl, Lib.hid (hT2.fr0 hG9), Lib.hid (hL2.fr0 hG9), HO2, by omega, hF2.trans0 hG9⟩
        case measure => simp [intOf]; omega
      · have hkl : (ofI (keysR L id)).length ≤ 1000 := Nat.le_trans (len_ofI _) (Nat.le_trans (keysR_len _ _) (by omega))
        have hge : ¬ (k : Int) < (acts.length : Int) := by omega
        go_wp2_with (first
          | (go_at_call 16; refine (works39_is _).mono ?_; rintro e w7 ⟨_, rfl, rfl, hf7⟩)
          | (go_at_call 21; (with_reducible refine (SameO_is (own_fr0 ho4 hf5) ho5 (by omega)).mono ?_); rintro e w6 ⟨_, rfl, rfl, hf6⟩; have hG6 := hG5.trans0 hf6)
          | (go_at_call 23; refine (Keys39_is (c := c1) (HL.out.fr0 hf4) (by omega) id).mono ?_; rintro e w5 ⟨v5, rfl, hf5, ho5⟩; obtain ⟨A5, c5, rfl⟩ := own_form ho5; have hG5 := hf4.trans0 hf5)
          | (go_at_call 22; refine (TKeys_is HT.out HO.out (by omega) y1).mono ?_; rintro e w4 ⟨v4, rfl, hf4, ho4⟩; obtain ⟨A4, c4, rfl⟩ := own_form ho4))
        refine bodyPost_ret (results_tmp (t := 8) rfl _ _ _) rfl ?_
        exact ⟨_, rfl, rfl, (hf.trans0 hG6).trans0 hf7⟩
end Go.Proofs.Ytekigojbkhjdbaa
