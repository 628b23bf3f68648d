/- What is led to is within the set, and closed: the law's walk. -/
import Derived.Test.YtdihpobegoihkaaDoorClosedPure
import Derived.Test.YtdihpobegoihkaaDoorReachSets
namespace Go.Proofs.YtdihpobegoihkaaDoor
set_option linter.all false
open Go.RowKit
set_option maxRecDepth 100000

theorem hasPut {W : World} {S : Option Addr} {d k : Nat} {ss : List Int} (h : IntsAt W S ss) (hk : k < 100) :
    Calls Tryd.prog 42 #[.slice S ss.length d, .int .i64 k] W fun e w' => e = .returned (.bool (putP 100 (fun _ => false) ss k)) ∧ W = w' := by
  have e : putP 100 (fun _ => false) ss k = decide ((k : Int) ∈ ss) := by simp [putP, hk]
  rw [e]
  exact Has5_is h k
theorem hasGot {W : World} {A : Option Addr} {c k N : Nat} {P : Nat → Bool} (h : IntsAt W A (natI (elems N P))) (hk : k < N) :
    Calls Tryd.prog 42 #[.slice A (elems N P).length c, .int .i64 k] W fun e w' => e = .returned (.bool (P k)) ∧ W = w' := by
  have e : P k = decide ((k : Int) ∈ natI (elems N P)) := by
    rw [Bool.eq_iff_iff, decide_eq_true_iff, mem_natI_elems]
    exact ⟨fun h => ⟨hk, h⟩, fun h => h.2⟩
  have := Has5_is (c := c) h (k : Int)
  rw [show (natI (elems N P)).length = (elems N P).length by simp [natI], ← e] at this
  exact this
def ledB (ps P : Nat → Bool) (M : Nat → Nat → Bool) (k j : Nat) : Bool := ps k || (List.range j).any (fun w => P w && M w k)
theorem ledB_zero (ps P : Nat → Bool) (M : Nat → Nat → Bool) (k : Nat) : ledB ps P M k 0 = ps k := by simp [ledB]
theorem ledB_succ (ps P : Nat → Bool) (M : Nat → Nat → Bool) (k j : Nat) : ledB ps P M k (j + 1) = (ledB ps P M k j || (P j && M j k)) := by
  simp [ledB, List.range_succ, Bool.or_assoc]
theorem ledB_all {ps P : Nat → Bool} {M : Nat → Nat → Bool} {k n : Nat} (h : ps k = true ∨ ∃ w, w < n ∧ P w = true ∧ M w k = true) : ledB ps P M k n = true := by
  rw [ledB, Bool.or_eq_true, List.any_eq_true]
  rcases h with h | ⟨w, hw, h1, h2⟩
  · exact .inl h
  · exact .inr ⟨w, List.mem_range.2 hw, by rw [h1, h2]; rfl⟩
set_option maxHeartbeats 16000000 in
theorem ReachClosed_is {W : World} {n m : Int} {A S B : Option Addr} {c d d2 : Nat} {l : List ArcI} {ss xs : List Int} (hT : Tab W) (hl : ArcsAt W A l) (hP : Plain A l.length c) (hs : IntsAt W S ss) (hsp : Plain S ss.length d2) (hx : IntsAt W B xs) (hp : Plain B xs.length d) :
    Calls Tryd.prog 9 #[.int .i64 n, .slice A l.length c, .slice S ss.length d2, .slice B xs.length d, .int .i64 m] W (Rets (SamePost true W)) := by
  have HF := Lib.hid (Few_is (c := c) hl n 30 200)
  have hWK := works21_is hT
  cases hf : fewI n l 30 200 with
  | false =>
    rw [hf] at HF
    have HW := Lib.hid hWK
    clear hl hT hP hf hx hp hWK hs hsp
    go_enter Tryd.func9, Tryd.ntmps9
    go_wp2_with (first
      | (go_at_call 13; refine (HF.out).mono ?_; rintro e w' ⟨rfl, rfl⟩)
      | (go_at_call 30; refine (HW.out).mono ?_; rintro e w' ⟨_, rfl, rfl, hf1⟩))
    go_ret
    exact ⟨_, rfl, rfl, hf1⟩
  | true =>
    rw [hf] at HF
    by_cases h61 : ss.length > 60
    · have h61' : (ss.length : Int) > 60 := by omega
      have HW := Lib.hid hWK
      clear hl hT hP hf hx hp hWK hs hsp
      go_enter Tryd.func9, Tryd.ntmps9
      go_wp2_with (first
        | (go_at_call 13; refine (HF.out).mono ?_; rintro e w' ⟨rfl, rfl⟩)
        | (go_at_call 30; refine (HW.out).mono ?_; rintro e w' ⟨_, rfl, rfl, hf1⟩))
      go_ret
      exact ⟨_, rfl, rfl, hf1⟩
    · have h61' : ¬ (ss.length : Int) > 60 := by omega
      by_cases h60 : xs.length > 60
      · have h60' : (xs.length : Int) > 60 := by omega
        have HW := Lib.hid hWK
        clear hl hT hP hf hx hp hWK hs hsp
        go_enter Tryd.func9, Tryd.ntmps9
        go_wp2_with (first
          | (go_at_call 13; refine (HF.out).mono ?_; rintro e w' ⟨rfl, rfl⟩)
          | (go_at_call 30; refine (HW.out).mono ?_; rintro e w' ⟨_, rfl, rfl, hf1⟩))
        go_ret
        exact ⟨_, rfl, rfl, hf1⟩
      · have h60' : ¬ (xs.length : Int) > 60 := by omega
        clear hWK
        obtain ⟨h0, h1, h2, h3⟩ := few21 hf
        obtain ⟨N, rfl⟩ : ∃ N : Nat, n = (N : Int) := ⟨n.toNat, by omega⟩
        have hN : N ≤ 1024 := by omega
        have hN1 : N ≤ 100 := by omega
        have HT := Lib.hid hT
        have HX := Lib.hid hx
        have HS := Lib.hid hs
        have HL := Lib.hid hl
        have H3 := Lib.hid h3
        have HRN := Lib.hid (RefNew_is (c := c) hl hN h3)
        clear hl hT hP hf hx hp h3 hs hsp
        go_enter Tryd.func9, Tryd.ntmps9
        go_wp2_with (first
          | (go_at_call 13; refine (HF.out).mono ?_; rintro e w' ⟨rfl, rfl⟩)
          | (go_at_call 15; refine (HRN.out).mono ?_; rintro e w1 ⟨_, rfl, R, cR, rfl, hf1, hR1⟩; have hG1 : Fr0 W (w1.alloc (.cells #[.int .i64 (N : Int), .slice R N cR] 27)) := hf1.trans0 (fr_alloc _ _ _); have HB := Lib.hid (build21_is (c := c) (HL.out.fr0 hG1) (by omega) hN H3.out))
          | (go_at_call 20; refine (List_is hI5).mono ?_; rintro e w6 ⟨v6, rfl, hf6, ho6⟩; obtain ⟨A6, c6, rfl⟩ := own_form ho6; have hG6 := hG5.trans0 hf6)
          | (go_at_call 32; refine (FromG_is (n := N) (J := J) (hR.fr0 (hf3.trans0 hf4)) (hG.fr0 (hf3.trans0 hf4)) (hI3.fr0 hf4) hI4 m).mono ?_; rintro e w5 ⟨_, rfl, g5, a5, rfl, _, _, hf5, hI5⟩; have hG5 := hG4.trans0 hf5)
          | (go_at_call 33; refine (set21_is (c := d) (HT.out.fr hG3 (fun x => x)) (HX.out.fr0 hG3)).mono ?_; rintro e w4 ⟨_, rfl, g4, a4, rfl, _, _, hf4, hI4⟩; have hG4 := hG3.trans0 hf4)
          | (go_at_call 33; refine (set21_is (c := d2) (HT.out.fr hG2 (fun x => x)) (HS.out.fr0 hG2)).mono ?_; rintro e w3 ⟨_, rfl, g3, a3, rfl, _, _, hf3, hI3⟩; have hG3 := hG2.trans0 hf3)
          | (go_at_call 31; refine (HB.out).mono ?_; rintro e w2 ⟨v2, rfl, r, p, pt, J, J', rfl, hf2, hR, hG, hGt, hB1, hB2⟩; have hG2 := hG1.trans0 hf2))
        have h16 : Fr0 (w1.alloc (.cells #[.int .i64 (N : Int), .slice R N cR] 27)) w6 := ((((hf2.trans0 hf3).trans0 hf4).trans0 hf5)).trans0 hf6
        have hhp : w6.heap[w1.heap.size]? = some (.cells #[.int .i64 (N : Int), .slice R N cR] 27 (0, 0)) := Fr0.heap' h16 (World.alloc_heap_new _ _)
        have hR6 : RefG w6 N R (mxL l) := (hR1.fr0 (fr_alloc _ _ _)).fr0 h16
        obtain ⟨P, hP⟩ : ∃ P, fromB N J m (putP 100 (fun _ => false) ss) (putP 100 (fun _ => false) xs) = P := ⟨_, rfl⟩
        rw [hP] at ho6 ⊢
        have hlen := elems_len N P
        have hI6 := own_ints ho6 (by omega)
        have HP := Lib.hid hP
        have HBU := Lib.hid hB1
        have HI6 := Lib.hid hI6
        have HR6 := Lib.hid hR6
        clear hP hB1 hB2 hI6 hR6 ho6 hR hG hGt hI3 hI4 hI5 hR1 HB HRN HF
        go_loopw [14, 15, 16, 17] (fun v14 v15 v16 v17 wr => ∃ k : Nat, k ≤ N ∧ v14 = .int .i64 k ∧ Fr0 w6 wr) (fun v14 _ _ _ _ => N - (intOf v14).toNat)
        case atStart => exact ⟨0, by omega, rfl, Fr.refl _ _⟩
        case round =>
          obtain ⟨k, hk, rfl, hfr⟩ := hrel
          by_cases hlt : k < N
          · have hlt' : (k : Int) < (N : Int) := by omega
            obtain ⟨b0, b1⟩ : wr.cell? ⟨w1.heap.size, 0, none⟩ = some (.int .i64 N) ∧ wr.cell? ⟨w1.heap.size, 1, none⟩ = some (.slice R N cR) := by
              have := Fr0.heap' hfr hhp
              exact ⟨by simp [World.cell?, this], by simp [World.cell?, this]⟩
            have fS := fun (h1 : putP 100 (fun _ => false) ss k = true) (h2 : putP 100 (fun _ => false) xs k = true) => (HP.out ▸ fromB_start (J := J) (m := m) h1 h2 hlt : P k = true)
            have fN := fun (h : P k = true) (j : Nat) (ha : rowM N J m k j = true) (hw : putP 100 (fun _ => false) xs j = true) => (HP.out ▸ fromB_next (HP.out.symm ▸ h) ha hw : P j = true)
            have fL := fun (h : P k = true) => (HP.out ▸ fromB_led (HP.out.symm ▸ h) : putP 100 (fun _ => false) xs k = true ∧ k < N ∧ (putP 100 (fun _ => false) ss k = true ∨ ∃ w, w < N ∧ P w = true ∧ rowM N J m w k = true))
            have HG8 := Lib.hid (hasGot (c := c6) (HI6.out.fr0 hfr) hlt)
            have HX8 := Lib.hid (hasPut (d := d) (k := k) (HX.out.fr0 (hG6.trans0 hfr)) (by omega))
            have HS8 := Lib.hid (hasPut (d := d2) (k := k) (HS.out.fr0 (hG6.trans0 hfr)) (by omega))
            have HLED := Lib.hid (fun h => ledB_all (fL h).2.2)
            have HNXT := Lib.hid fN
            have hPW : P k = true → putP 100 (fun _ => false) xs k = true := fun h => (fL h).1
            clear fN fL
            obtain ⟨pw, hpw⟩ : ∃ pw, putP 100 (fun _ => false) xs = pw := ⟨_, rfl⟩
            obtain ⟨ps, hps⟩ : ∃ ps, putP 100 (fun _ => false) ss = ps := ⟨_, rfl⟩
            rw [hpw] at hPW fS HNXT HX8
            rw [hps] at fS HLED HS8
            have HPW := Lib.hid hpw
            have HPS := Lib.hid hps
            clear hpw hps HP
            cases hPk : P k with
            | true =>
              have hWk := hPW hPk
              rw [hPk] at HG8
              rw [hWk] at HX8
              replace HLED := Lib.hid (HLED.out hPk)
              replace HNXT := Lib.hid (HNXT.out hPk)
              clear hPW fS hWk hPk b0 b1
              go_wp2_with (first
                | (go_at_call 42; with_reducible refine (HG8.out).mono ?_; rintro e w' ⟨rfl, rfl⟩)
                | (go_at_call 42; with_reducible refine (HX8.out).mono ?_; rintro e w' ⟨rfl, rfl⟩)
                | (go_at_call 42; with_reducible refine (HS8.out).mono ?_; rintro e w' ⟨rfl, rfl⟩))
              have hst := ledB_zero ps P (rowM N J m) k
              generalize hsk : ps k = sk at hst HS8 ⊢
              clear HG8 HX8 HS8
              go_loopw [16, 17] (fun v16 v17 w2 => ∃ j : Nat, j ≤ N ∧ v17 = .int .i64 j ∧ v16 = .bool (ledB ps P (rowM N J m) k j) ∧ Fr0 wr w2) (fun _ v17 _ => N - (intOf v17).toNat)
              case atStart => exact ⟨0, by omega, rfl, by rw [hst], Fr.refl _ _⟩
              case round =>
                rename World => w9
                obtain ⟨j, hj, rfl, hv16, hf9⟩ := hrel
                have hF9 : Fr0 w6 w9 := hfr.trans0 hf9
                by_cases hj2 : j < N
                · have hj2' : (j : Int) < (N : Int) := by omega
                  obtain ⟨b0, b1⟩ : w9.cell? ⟨w1.heap.size, 0, none⟩ = some (.int .i64 N) ∧ w9.cell? ⟨w1.heap.size, 1, none⟩ = some (.slice R N cR) := by
                    have := Fr0.heap' hF9 hhp
                    exact ⟨by simp [World.cell?, this], by simp [World.cell?, this]⟩
                  have hled := ledB_succ ps P (rowM N J m) k j
                  have hor : (bits .and .i64 (maskR N (mxL l) (j : Int) (k : Int)) m != 0) = rowM N J m j k := HBU.out.out m j k
                  have HGj := Lib.hid (hasGot (c := c6) (HI6.out.fr0 hF9) hj2)
                  have KB := Lib.hid (MaskR_is (c := cR) (HR6.out.fr0 hF9) (j : Int) (k : Int))
                  have HXj := Lib.hid (hasPut (d := d) (k := j) (HX.out.fr0 (hG6.trans0 hF9)) (by omega))
                  rw [HPW.out] at HXj
                  have KA := Lib.hid (MaskR_is (c := cR) (HR6.out.fr0 hF9) (k : Int) (j : Int))
                  have hz0 : rowM N J m k j = true → pw j = true → P j = true := HNXT.out j
                  have hkz : (bits .and .i64 (maskR N (mxL l) (k : Int) (j : Int)) m != 0) = rowM N J m k j := HBU.out.out m k j
                  generalize hpj : P j = pj at HGj hled hz0
                  generalize hwj : pw j = wj at HXj hz0
                  generalize hlj : ledB ps P (rowM N J m) k j = lj at hled hv16
                  subst hv16
                  generalize rowM N J m j k = rj at hled hor
                  generalize maskR N (mxL l) (j : Int) (k : Int) = mb at KB hor
                  generalize maskR N (mxL l) (k : Int) (j : Int) = ma at KA hkz
                  generalize rowM N J m k j = rk at hkz hz0
                  have HPJ := Lib.hid hpj
                  clear hpj hlj hwj
                  cases pj with
                  | true =>
                    cases lj with
                    | true =>
                      go_wp2_with (go_at_call 42; with_reducible refine (HGj.out).mono ?_; rintro e w' ⟨rfl, rfl⟩)
                      go_roundw
                      case rel => exact ⟨j + 1, by omega, by go_num, by rw [hled]; first | rfl | (rw [← hor]; rfl) | (rw [← hor]; simp), hf9⟩
                      case measure => simp [intOf]; omega
                    | false =>
                      go_wp2_with (first | (go_at_call 42; with_reducible refine (HGj.out).mono ?_; rintro e w' ⟨rfl, rfl⟩) | (go_at_call 27; (with_reducible refine (KB.out).mono ?_); rintro e w10 ⟨_, rfl, rfl, hf10⟩))
                      go_roundw
                      case rel => exact ⟨j + 1, by omega, by go_num, by rw [hled]; first | rfl | (rw [← hor]; rfl) | (rw [← hor]; simp), hf9.trans0 hf10⟩
                      case measure => simp [intOf]; omega
                  | false =>
                    cases wj with
                    | false =>
                      cases lj with
                      | true =>
                        go_wp2_with (first | (go_at_call 42; with_reducible refine (HGj.out).mono ?_; rintro e w' ⟨rfl, rfl⟩) | (go_at_call 42; with_reducible refine (HXj.out).mono ?_; rintro e w' ⟨rfl, rfl⟩))
                        go_roundw
                        case rel => exact ⟨j + 1, by omega, by go_num, by rw [hled]; first | rfl | (rw [← hor]; rfl) | (rw [← hor]; simp), hf9⟩
                        case measure => simp [intOf]; omega
                      | false =>
                        go_wp2_with (first | (go_at_call 42; with_reducible refine (HGj.out).mono ?_; rintro e w' ⟨rfl, rfl⟩) | (go_at_call 42; with_reducible refine (HXj.out).mono ?_; rintro e w' ⟨rfl, rfl⟩))
                        go_roundw
                        case rel => exact ⟨j + 1, by omega, by go_num, by rw [hled]; first | rfl | (rw [← hor]; rfl) | (rw [← hor]; simp), hf9⟩
                        case measure => simp [intOf]; omega
                    | true =>
                      have hrk : rk = false := by cases rk with
                        | false => rfl
                        | true => exact absurd (hz0 rfl rfl) (by simp)
                      subst hrk
                      cases lj with
                      | true =>
                        go_wp2_with (first | (go_at_call 42; with_reducible refine (HGj.out).mono ?_; rintro e w' ⟨rfl, rfl⟩) | (go_at_call 42; with_reducible refine (HXj.out).mono ?_; rintro e w' ⟨rfl, rfl⟩) | (go_at_call 27; (with_reducible refine (KA.out).mono ?_); rintro e w10 ⟨_, rfl, rfl, hf10⟩))
                        go_roundw
                        case rel => exact ⟨j + 1, by omega, by go_num, by rw [hled]; first | rfl | (rw [← hor]; rfl) | (rw [← hor]; simp), hf9.trans0 hf10⟩
                        case measure => simp [intOf]; omega
                      | false =>
                        go_wp2_with (first | (go_at_call 42; with_reducible refine (HGk.out).mono ?_; rintro e w' ⟨rfl, rfl⟩) | (go_at_call 42; with_reducible refine (HGj.out).mono ?_; rintro e w' ⟨rfl, rfl⟩) | (go_at_call 42; with_reducible refine (HXj.out).mono ?_; rintro e w' ⟨rfl, rfl⟩) | (go_at_call 27; (with_reducible refine (KA.out).mono ?_); rintro e w10 ⟨_, rfl, rfl, hf10⟩; have HGk := hasGot (c := c6) (HI6.out.fr0 (hF9.trans0 hf10)) hj2; rw [HPJ.out] at HGk; replace HGk := Lib.hid HGk))
                        go_roundw
                        case rel => exact ⟨j + 1, by omega, by go_num, by rw [hled]; first | rfl | (rw [← hor]; rfl) | (rw [← hor]; simp), hf9.trans0 hf10⟩
                        case measure => simp [intOf]; omega
                · have hje : j = N := by omega
                  subst hje
                  rw [HLED.out] at hv16
                  subst hv16
                  go_wp2_with fail
                  go_roundw
                  case rel => exact ⟨k + 1, by omega, by go_num, hfr.trans0 hf9⟩
                  case measure => simp [intOf]; omega
            | false =>
              rw [hPk] at HG8
              clear hPW HLED HNXT b0 b1
              cases hWk : pw k with
              | false =>
                rw [hWk] at HX8
                clear fS
                go_wp2_with (first | (go_at_call 42; with_reducible refine (HG8.out).mono ?_; rintro e w' ⟨rfl, rfl⟩) | (go_at_call 42; with_reducible refine (HX8.out).mono ?_; rintro e w' ⟨rfl, rfl⟩) | (go_at_call 42; with_reducible refine (HS8.out).mono ?_; rintro e w' ⟨rfl, rfl⟩))
                have hst := ledB_zero ps P (rowM N J m) k
                generalize hsk : ps k = sk at hst HS8 ⊢
                clear HG8 HX8 HS8
                go_loopw [16, 17] (fun v16 v17 w2 => ∃ j : Nat, j ≤ N ∧ v17 = .int .i64 j ∧ v16 = .bool (ledB ps P (rowM N J m) k j) ∧ Fr0 wr w2) (fun _ v17 _ => N - (intOf v17).toNat)
                case atStart => exact ⟨0, by omega, rfl, by rw [hst], Fr.refl _ _⟩
                case round =>
                  rename World => w9
                  obtain ⟨j, hj, rfl, hv16, hf9⟩ := hrel
                  have hF9 : Fr0 w6 w9 := hfr.trans0 hf9
                  by_cases hj2 : j < N
                  · have hj2' : (j : Int) < (N : Int) := by omega
                    obtain ⟨b0, b1⟩ : w9.cell? ⟨w1.heap.size, 0, none⟩ = some (.int .i64 N) ∧ w9.cell? ⟨w1.heap.size, 1, none⟩ = some (.slice R N cR) := by
                      have := Fr0.heap' hF9 hhp
                      exact ⟨by simp [World.cell?, this], by simp [World.cell?, this]⟩
                    have hled := ledB_succ ps P (rowM N J m) k j
                    have hor : (bits .and .i64 (maskR N (mxL l) (j : Int) (k : Int)) m != 0) = rowM N J m j k := HBU.out.out m j k
                    have HGj := Lib.hid (hasGot (c := c6) (HI6.out.fr0 hF9) hj2)
                    have KB := Lib.hid (MaskR_is (c := cR) (HR6.out.fr0 hF9) (j : Int) (k : Int))
                    generalize hpj : P j = pj at HGj hled
                    generalize hlj : ledB ps P (rowM N J m) k j = lj at hled hv16
                    subst hv16
                    generalize rowM N J m j k = rj at hled hor
                    generalize maskR N (mxL l) (j : Int) (k : Int) = mb at KB hor
                    clear hpj hlj
                    cases lj with
                    | true =>
                      go_wp2_with (first | (go_at_call 42; with_reducible refine (HGj.out).mono ?_; rintro e w' ⟨rfl, rfl⟩) | (go_at_call 27; (with_reducible refine (KB.out).mono ?_); rintro e w10 ⟨_, rfl, rfl, hf10⟩))
                      go_roundw
                      case rel => exact ⟨j + 1, by omega, by go_num, by rw [hled]; first | rfl | (rw [← hor]; rfl) | (rw [← hor]; simp), hf9⟩
                      case measure => simp [intOf]; omega
                    | false =>
                      cases pj with
                      | true =>
                        go_wp2_with (first | (go_at_call 42; with_reducible refine (HGj.out).mono ?_; rintro e w' ⟨rfl, rfl⟩) | (go_at_call 27; (with_reducible refine (KB.out).mono ?_); rintro e w10 ⟨_, rfl, rfl, hf10⟩))
                        go_roundw
                        case rel => exact ⟨j + 1, by omega, by go_num, by rw [hled]; first | rfl | (rw [← hor]; rfl) | (rw [← hor]; simp), hf9.trans0 hf10⟩
                        case measure => simp [intOf]; omega
                      | false =>
                        go_wp2_with (first | (go_at_call 42; with_reducible refine (HGj.out).mono ?_; rintro e w' ⟨rfl, rfl⟩) | (go_at_call 27; (with_reducible refine (KB.out).mono ?_); rintro e w10 ⟨_, rfl, rfl, hf10⟩))
                        go_roundw
                        case rel => exact ⟨j + 1, by omega, by go_num, by rw [hled]; first | rfl | (rw [← hor]; rfl) | (rw [← hor]; simp), hf9⟩
                        case measure => simp [intOf]; omega
                  · have hje : j = N := by omega
                    subst hje
                    subst hv16
                    go_wp2_with fail
                    go_roundw
                    case rel => exact ⟨k + 1, by omega, by go_num, hfr.trans0 hf9⟩
                    case measure => simp [intOf]; omega
              | true =>
                have hSk : ps k = false := by
                  cases h : ps k with
                  | false => rfl
                  | true => rw [fS h hWk] at hPk; cases hPk
                rw [hWk] at HX8
                rw [hSk] at HS8
                clear fS
                go_wp2_with (first | (go_at_call 42; with_reducible refine (HG8.out).mono ?_; rintro e w' ⟨rfl, rfl⟩) | (go_at_call 42; with_reducible refine (HX8.out).mono ?_; rintro e w' ⟨rfl, rfl⟩) | (go_at_call 42; with_reducible refine (HS8.out).mono ?_; rintro e w' ⟨rfl, rfl⟩))
                have hst := ledB_zero ps P (rowM N J m) k
                rw [hSk] at hst
                clear HG8 HX8 HS8
                go_loopw [16, 17] (fun v16 v17 w2 => ∃ j : Nat, j ≤ N ∧ v17 = .int .i64 j ∧ v16 = .bool (ledB ps P (rowM N J m) k j) ∧ Fr0 wr w2) (fun _ v17 _ => N - (intOf v17).toNat)
                case atStart => exact ⟨0, by omega, rfl, by rw [hst], Fr.refl _ _⟩
                case round =>
                  rename World => w9
                  obtain ⟨j, hj, rfl, hv16, hf9⟩ := hrel
                  have hF9 : Fr0 w6 w9 := hfr.trans0 hf9
                  by_cases hj2 : j < N
                  · have hj2' : (j : Int) < (N : Int) := by omega
                    obtain ⟨b0, b1⟩ : w9.cell? ⟨w1.heap.size, 0, none⟩ = some (.int .i64 N) ∧ w9.cell? ⟨w1.heap.size, 1, none⟩ = some (.slice R N cR) := by
                      have := Fr0.heap' hF9 hhp
                      exact ⟨by simp [World.cell?, this], by simp [World.cell?, this]⟩
                    have hled := ledB_succ ps P (rowM N J m) k j
                    have hor : (bits .and .i64 (maskR N (mxL l) (j : Int) (k : Int)) m != 0) = rowM N J m j k := HBU.out.out m j k
                    have HGj := Lib.hid (hasGot (c := c6) (HI6.out.fr0 hF9) hj2)
                    have KB := Lib.hid (MaskR_is (c := cR) (HR6.out.fr0 hF9) (j : Int) (k : Int))
                    generalize hpj : P j = pj at HGj hled
                    generalize hlj : ledB ps P (rowM N J m) k j = lj at hled hv16
                    subst hv16
                    generalize rowM N J m j k = rj at hled hor
                    generalize maskR N (mxL l) (j : Int) (k : Int) = mb at KB hor
                    clear hpj hlj
                    cases lj with
                    | true =>
                      go_wp2_with (first | (go_at_call 42; with_reducible refine (HGj.out).mono ?_; rintro e w' ⟨rfl, rfl⟩) | (go_at_call 27; (with_reducible refine (KB.out).mono ?_); rintro e w10 ⟨_, rfl, rfl, hf10⟩))
                      go_roundw
                      case rel => exact ⟨j + 1, by omega, by go_num, by rw [hled]; first | rfl | (rw [← hor]; rfl) | (rw [← hor]; simp), hf9⟩
                      case measure => simp [intOf]; omega
                    | false =>
                      cases pj with
                      | true =>
                        go_wp2_with (first | (go_at_call 42; with_reducible refine (HGj.out).mono ?_; rintro e w' ⟨rfl, rfl⟩) | (go_at_call 27; (with_reducible refine (KB.out).mono ?_); rintro e w10 ⟨_, rfl, rfl, hf10⟩))
                        go_roundw
                        case rel => exact ⟨j + 1, by omega, by go_num, by rw [hled]; first | rfl | (rw [← hor]; rfl) | (rw [← hor]; simp), hf9.trans0 hf10⟩
                        case measure => simp [intOf]; omega
                      | false =>
                        go_wp2_with (first | (go_at_call 42; with_reducible refine (HGj.out).mono ?_; rintro e w' ⟨rfl, rfl⟩) | (go_at_call 27; (with_reducible refine (KB.out).mono ?_); rintro e w10 ⟨_, rfl, rfl, hf10⟩))
                        go_roundw
                        case rel => exact ⟨j + 1, by omega, by go_num, by rw [hled]; first | rfl | (rw [← hor]; rfl) | (rw [← hor]; simp), hf9⟩
                        case measure => simp [intOf]; omega
                  · have hje : j = N := by omega
                    subst hje
                    subst hv16
                    go_wp2_with fail
                    go_roundw
                    case rel => exact ⟨k + 1, by omega, by go_num, hfr.trans0 hf9⟩
                    case measure => simp [intOf]; omega
          · have HWK := Lib.hid (works21_is (HT.out.fr (hG6.trans0 hfr) (fun x => x)))
            have hke : k = N := by omega
            subst hke
            go_wp2_with (go_at_call 30; refine (HWK.out).mono ?_; rintro e w7 ⟨_, rfl, rfl, hf7⟩)
            go_ret
            exact ⟨_, rfl, rfl, (hG6.trans0 hfr).trans0 hf7⟩
end Go.Proofs.YtdihpobegoihkaaDoor
