/- CycleMasks walked. -/
import Derived.Test.YtidpmbbkpclccaaCyMasks
import Derived.Test.YtidpmbbkpclccaaWorks26
import Derived.Test.YtidpmbbkpclccaaRefC
import Derived.Test.YtidpmbbkpclccaaRefNew
import Derived.BigRegion
namespace Go.Proofs.Ytidpmbbkpclccaa
set_option linter.all false
open Go.RowKit
attribute [local go_sem ↓] appendH_eq
set_option maxRecDepth 100000

theorem few_partsM {n : Int} {l : List ArcI} {most arcs : Int} (h : fewI n l most arcs = true) : 0 ≤ n ∧ n ≤ most ∧ (l.length : Int) ≤ arcs ∧ l.any (badI n) = false := by
  simp only [fewI, Bool.and_eq_true, decide_eq_true_eq, Bool.not_eq_true'] at h
  exact ⟨h.1.1.1, h.1.1.2, h.1.2, h.2⟩
/-- The graph's masks are the document's, at any numbers. -/
theorem maskG_eq {n : Nat} {l s : List ArcI} (hl : ∀ a ∈ l, inR a.m) (hall : l.any (badI n) = false) (hp : s.Perm (l.filter (fun a => !dropI a))) (hs : SortedOn s 0 s.length) (u t : Int) :
    maskG n (joinL s) u t = maskR n (fun a b => orM l a b) u t := by
  unfold maskG maskR
  by_cases hu : 0 ≤ u ∧ u < n
  · rw [if_pos hu]
    obtain ⟨v, rfl⟩ : ∃ v : Nat, u = (v : Int) := ⟨u.toNat, by omega⟩
    by_cases ht : 0 ≤ t ∧ t < n
    · obtain ⟨w, rfl⟩ : ∃ w : Nat, t = (w : Int) := ⟨t.toNat, by omega⟩
      rw [if_pos ⟨hu.1, hu.2, ht.1, ht.2⟩]
      exact mask_same (n := n) hl hp hs v w
    · rw [if_neg (fun h => ht ⟨h.2.2.1, h.2.2.2⟩)]
      have : (rowL (joinL s) (v : Int).toNat).find? (fun a => a.t == t) = none := by
        rw [List.find?_eq_none]
        intro a ha
        have := join_ends hp hall a (List.mem_of_mem_drop (List.mem_of_mem_take ha))
        simp
        intro e
        exact ht ⟨by omega, by omega⟩
      rw [this]; rfl
  · rw [if_neg hu, if_neg (fun h => hu ⟨h.1, h.2.1⟩)]
theorem SameM_is {W : World} {B B' c d : Nat} {A A' : Option Addr} {l : List Int} (h : W.ownsRow B 3 1 (.slice A l.length c) l.length (intsI l)) (h2 : W.ownsRow B' 3 1 (.slice A' l.length d) l.length (intsI l)) (hlen : l.length ≤ 1000000) :
    Calls Try.prog 10 #[.slice A l.length c, .slice A' l.length d] W (Rets (SamePost true W)) := SameO_is h h2 hlen
set_option maxHeartbeats 8000000 in
theorem CycleMasks_is {W : World} {n : Int} {A : Option Addr} {c : Nat} {l : List ArcI} (hl : ArcsAt W A l) (hP : Plain A l.length c) (hR : ∀ a ∈ l, inR a.m) {B : Option Addr} {d : Nat} {xs : List Int} (hx : IntsAt W B xs) (hp : Plain B xs.length d) :
    Calls Try.prog 3 #[.int .i64 n, .slice A l.length c, .slice B xs.length d] W (Rets (SamePost true W)) := by
  have HF := Lib.hid (Few_is (c := c) hl n 30 200)
  cases hf : fewI n l 30 200 with
  | false =>
    rw [hf] at HF
    go_enter Try.func3, Try.ntmps3
    go_wp2_with (first | (go_at_call 5; refine (works26_is _).mono ?_; rintro e w' ⟨_, rfl, rfl, hf3⟩) | (go_at_call 4; refine (HF.out).mono ?_; rintro e w1 ⟨rfl, rfl⟩))
    refine bodyPost_ret (results_tmp (t := 6) rfl _ _ _) rfl ?_
    exact ⟨_, rfl, rfl, hf3⟩
  | true =>
    rw [hf] at HF
    obtain ⟨hn0, hn1, hll, hall⟩ := few_partsM hf
    by_cases hbig : (60 : Int) < (xs.length : Int)
    · go_enter Try.func3, Try.ntmps3
      go_wp2_with (first | (go_at_call 5; refine (works26_is _).mono ?_; rintro e w' ⟨_, rfl, rfl, hf3⟩) | (go_at_call 4; refine (HF.out).mono ?_; rintro e w1 ⟨rfl, rfl⟩))
      refine bodyPost_ret (results_tmp (t := 6) rfl _ _ _) rfl ?_
      exact ⟨_, rfl, rfl, hf3⟩
    · obtain ⟨N, rfl⟩ : ∃ N : Nat, n = (N : Int) := ⟨n.toNat, by omega⟩
      have hN : N ≤ 1024 := by omega
      have hlen : l.length ≤ 200 := by omega
      have hxl : xs.length ≤ 60 := by omega
      obtain ⟨i0, hi0, hz0, hz1, hz2⟩ := info_parts info_arc
      have HA := Lib.hid hl
      have HX := Lib.hid hx
      have HALL := Lib.hid hall
      have HRR := Lib.hid hR
      clear hl hx hall hR hf hP hp
      go_enter Try.func3, Try.ntmps3
      go_wp2_with (go_at_call 4; refine (HF.out).mono ?_; rintro e w1 ⟨rfl, rfl⟩)
      go_loopw [7, 8] (fun v5 v6 wr => ∃ i : Nat, i ≤ l.length ∧ v6 = .int .i64 i ∧ Fr0 W wr ∧ Hid (wr.ownsRow W.heap.size 29 3 v5 i (arcCells (l.take i)))) (fun _ v6 _ => l.length - (intOf v6).toNat)
      case atStart => exact ⟨0, by omega, rfl, Fr.refl _ _, Lib.hid (own_nil _ _ _ _)⟩
      case round =>
        obtain ⟨i, hi, rfl, hf, HO⟩ := hrel
        obtain ⟨A5, c5, e5⟩ := own_form HO.out
        subst e5
        by_cases hlt : i < l.length
        · have hlt' : (i : Int) < (l.length : Int) := by omega
          rcases (HA.out.fr0 hf).2 with e | ⟨b, o, rfl, hc⟩
          · rw [e] at hlt; cases hlt
          obtain ⟨c1, c2, c3⟩ := hc i hlt
          have htk := take_snoc_a l i hlt
          generalize l.getD i default = a at c1 c2 c3 htk
          have HTK := Lib.hid htk
          clear htk hc
          have hsz := hf.size
          have hfX : Fr0 wr (wr.alloc (.cells #[.int .i64 a.f, .int .i64 a.t, .int .i64 a.m] 29)) := fr_alloc _ _ _
          have ho1 := own_fr0 HO.out (hfX.trans0 (fr_drew _ _))
          have hnew : ∀ j u, (arcV a)[j]? = some u → (wr.alloc (.cells #[.int .i64 a.f, .int .i64 a.t, .int .i64 a.m] 29)).drew.cell? ((⟨wr.heap.size, 0, none⟩ : Addr).add j) = some u := cell3_new wr _ rfl a _
          obtain ⟨v', w', hap, ho2, hgb, _⟩ := run_append_own (P := Try.prog) (w := (wr.alloc (.cells #[.int .i64 a.f, .int .i64 a.t, .int .i64 a.m] 29)).drew) W.heap.size 26 26 29 i0 (.agg #[.int .i64 0, .int .i64 0, .int .i64 0]) 3 24 Try.underlying26 hi0 hz0 hz1 hz2 rfl (by decide) (.slice A5 i c5) i (arcCells (l.take i)) ho1 ⟨wr.heap.size, 0, none⟩ 1 1 (arcV a) rfl hnew (arcV_one a) (by unfold maxLen; omega) (by omega) (Nat.le_trans hsz (by show wr.heap.size ≤ (wr.alloc _).heap.size; rw [World.size_alloc]; exact Nat.le_succ _))
          rw [appendH_eq] at hap
          have hfA : Fr0 W w' := (hf.trans0 (hfX.trans0 (fr_drew _ _))).trans (append_fr0 ho1 hgb) (fun j hj e => own_old ho1 hj e)
          obtain ⟨A6, c6, rfl⟩ := own_form ho2
          have HO2 := Lib.hid ho2
          clear ho1 ho2 hgb hnew
          go_wp2_with fail
          go_region
          go_wp2_with fail
          go_roundw
          case rel => exact ⟨i + 1, by omega, by go_num, hfA, Lib.hid (by rw [HTK.out, ← arcCells_snoc]; exact HO2.out)⟩
          case measure => simp [intOf]; omega
        · have hie : i = l.length := by omega
          subst hie
          have ho := HO.out
          rw [List.take_of_length_le (Nat.le_refl _)] at ho
          have HN := Lib.hid (NewG_is (c := c5) (own_arcs ho (by omega)) (by omega) hN HALL.out)
          clear ho
          have HRN := Lib.hid (fun (w : World) (f : Fr0 W w) => RefNew_is (c := c) (HA.out.fr0 f) hN HALL.out)
          have HPM : Hid (∀ (w : World) g s ab A' c', s.Perm (l.filter (fun a => !dropI a)) → SortedOn s 0 s.length → GX w g N (joinL s) ab A' c' → IntsAt w B xs → Calls Try.prog 8 #[.pointer (some ⟨g, 0, none⟩), .slice B xs.length d] w (Rets (MsPost w (masksO (maskR N (fun a b => orM l a b)) xs)))) := Lib.hid (fun w g s ab A' c' k3 k4 k5 hx' => by
            have hg := built_isG hN k3 k4 HALL.out k5
            have hjl : (joinL s).length ≤ 1000000 := by
              have h1 := joinL_len s
              have h2 := k3.length_eq
              have h3 := List.length_filter_le (fun a => !dropI a) l
              omega
            have h := CMasks_is (W := w) (p := .pointer (some ⟨g, 0, none⟩)) (M := maskG N (joinL s)) (fun w' f u t => MaskG_is (hg.fr0 f) (rowL_rise k4) hjl u t) (c := d) hx' (by omega)
            rwa [show maskG N (joinL s) = maskR N (fun a b => orM l a b) from funext (fun u => funext (fun t => maskG_eq HRR.out HALL.out k3 k4 u t))] at h)
          have HRM : Hid (∀ (w : World) R cR, RefG w N R (fun a b => orM l a b) → IntsAt w B xs → Calls Try.prog 9 #[.agg #[.int .i64 (N : Int), .slice R N cR], .slice B xs.length d] w (Rets (MsPost w (masksO (maskR N (fun a b => orM l a b)) xs)))) := Lib.hid (fun w R cR hG hx' =>
            Masks26_is (M := maskR N (fun a b => orM l a b)) (fun w' f u t => MaskR_is (hG.fr0 f) u t) hx' (by omega))
          have hml : ∀ L, masksO (maskR N (fun a b => orM l a b)) xs = some L → L.length ≤ 1000 := fun L hL => by
            unfold masksO at hL
            split at hL
            · cases hL
            · cases hL; simp; omega
          generalize masksO (maskR N (fun a b => orM l a b)) xs = o at HPM HRM hml
          have HN2 := Lib.hid HN.out
          unfold NewGPost at HN2
          unfold RefNewPost at HRN
          unfold MsPost at HPM HRM
          cases o with
          | none =>
            clear hml
            have HS : Hid (∀ w, Calls Try.prog 10 #[.slice none 0 0, .slice none 0 0] w (Rets (SamePost true w))) := Lib.hid (fun w => Same_is (c := 0) (d := 0) (xs := []) (ys := []) ⟨by simp, .inl rfl⟩ ⟨by simp, .inl rfl⟩)
            go_wp2_with (first
              | (go_at_call 5; refine (works26_is _).mono ?_; rintro e w6 ⟨_, rfl, rfl, hf6⟩)
              | (go_at_call 10; refine (HS.out _).mono ?_; rintro e w5 ⟨_, rfl, rfl, hf5⟩)
              | (go_at_call 9; refine (HRM.out _ R2 cR2 (hG2.fr0 ((fr_alloc _ _ _).trans0 hf3)) (HX.out.fr0 hF3)).mono ?_; rintro e w4 ⟨_, rfl, hf4, rfl⟩)
              | (go_at_call 8; refine (HPM.out _ g s ab A' c' k3 k4 (k5.grow (Fr0.grow (hf2.alloc (.cells #[.int .i64 (N : Int), .slice R2 N cR2] 36)) 0)) (HX.out.fr0 (hF2.alloc _))).mono ?_; rintro e w3 ⟨_, rfl, hf3, rfl⟩; have hF3 := (hF2.alloc (.cells #[.int .i64 (N : Int), .slice R2 N cR2] 36)).trans0 hf3; have q := two_cells26 w2 (.int .i64 (N : Int)) (.slice R2 N cR2) 36; have q0 := hf3.cell q.1 (fun x => x); have q1 := hf3.cell q.2 (fun x => x))
              | (go_at_call 7; refine (HRN.out _ hF1).mono ?_; rintro e w2 ⟨_, rfl, R2, cR2, rfl, hf2, hG2⟩; have hF2 := hF1.trans0 hf2)
              | (go_at_call 6; refine (HN2.out).mono ?_; rintro e w1 ⟨_, rfl, g, s, rfl, hf1, k2, k3, k4, ab, A', c', k5⟩; have hF1 := hf.trans0 hf1))
            refine bodyPost_ret (results_tmp (t := 6) rfl _ _ _) rfl ?_
            exact ⟨_, rfl, rfl, (hF3.trans0 hf4).trans0 (hf5.trans0 hf6)⟩
          | some L =>
            have hL6 : L.length ≤ 1000000 := Nat.le_trans (hml L rfl) (by omega)
            clear hml
            go_wp2_with (first
              | (go_at_call 5; refine (works26_is _).mono ?_; rintro e w6 ⟨_, rfl, rfl, hf6⟩)
              | (go_at_call 10; refine (SameO_is (own_fr0 ho3 hf4) ho4 hL6).mono ?_; rintro e w5 ⟨_, rfl, rfl, hf5⟩)
              | (go_at_call 9; refine (HRM.out _ R2 cR2 (hG2.fr0 ((fr_alloc _ _ _).trans0 hf3)) (HX.out.fr0 hF3)).mono ?_; rintro e w4 ⟨_, rfl, hf4, A4, c4, rfl, ho4⟩)
              | (go_at_call 8; refine (HPM.out _ g s ab A' c' k3 k4 (k5.grow (Fr0.grow (hf2.alloc (.cells #[.int .i64 (N : Int), .slice R2 N cR2] 36)) 0)) (HX.out.fr0 (hF2.alloc _))).mono ?_; rintro e w3 ⟨_, rfl, hf3, A3, c3, rfl, ho3⟩; have hF3 := (hF2.alloc (.cells #[.int .i64 (N : Int), .slice R2 N cR2] 36)).trans0 hf3; have q := two_cells26 w2 (.int .i64 (N : Int)) (.slice R2 N cR2) 36; have q0 := hf3.cell q.1 (fun x => x); have q1 := hf3.cell q.2 (fun x => x))
              | (go_at_call 7; refine (HRN.out _ hF1).mono ?_; rintro e w2 ⟨_, rfl, R2, cR2, rfl, hf2, hG2⟩; have hF2 := hF1.trans0 hf2)
              | (go_at_call 6; refine (HN2.out).mono ?_; rintro e w1 ⟨_, rfl, g, s, rfl, hf1, k2, k3, k4, ab, A', c', k5⟩; have hF1 := hf.trans0 hf1))
            refine bodyPost_ret (results_tmp (t := 6) rfl _ _ _) rfl ?_
            exact ⟨_, rfl, rfl, (hF3.trans0 hf4).trans0 (hf5.trans0 hf6)⟩
end Go.Proofs.Ytidpmbbkpclccaa
