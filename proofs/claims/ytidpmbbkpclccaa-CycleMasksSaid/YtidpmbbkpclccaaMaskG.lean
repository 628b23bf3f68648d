/- The mask of an arc of a graph: a search in the row of its vertex. -/
import Derived.Test.YtidpmbbkpclccaaMaskPure
import Derived.Test.YtidpmbbkpclccaaGraph
import Derived.Test.YtidpmbbkpclccaaRefB
namespace Go.Proofs.Ytidpmbbkpclccaa
set_option linter.all false
open Go.RowKit
set_option maxRecDepth 100000

theorem Mask1_is (a : ArcI) (x : Int) (W : World) : Calls Try.prog 44 #[.agg #[.int .i64 a.f, .int .i64 a.t, .int .i64 a.m], .int .i64 x] W (Rets fun v w' => v = .int .i64 (cmpI a.t x) ∧ Fr0 W w') := by
  go_enter Try.func44, Try.ntmps44
  go_wp2_with (go_at_call 45; refine (Compare_is a.t x _).mono ?_; rintro e w' ⟨rfl, rfl⟩)
  go_ret
  exact ⟨_, rfl, rfl, fr_alloc _ _ _⟩
theorem cmpI_lt (a b : Int) : cmpI a b < 0 ↔ a < b := by unfold cmpI; split <;> (try split) <;> omega
theorem cmpI_zero (a b : Int) : cmpI a b = 0 ↔ a = b := by unfold cmpI; split <;> (try split) <;> omega
/-- Where a vertex stands, in a row that rises. -/
def FindG (W : World) (l : List ArcI) (x : Int) (v : Value) (w' : World) : Prop :=
  Fr0 W w' ∧ ∃ (i : Nat) (b : Bool), i ≤ l.length ∧ v = .tuple #[.int .i64 i, .bool b] ∧ (b = true ↔ i < l.length ∧ (l.getD i default).t = x) ∧ (∀ k, k < i → (l.getD k default).t < x) ∧ ∀ k, i ≤ k → k < l.length → x ≤ (l.getD k default).t
set_option maxHeartbeats 4000000 in
theorem FindG_is {W : World} {A : Option Addr} {c : Nat} {l : List ArcI} (hl : ArcsAt W A l) (hsm : l.length ≤ 1000000) (hr : l.Pairwise (fun a b => a.t < b.t)) (x : Int) :
    Calls Try.prog 43 #[.slice A l.length c, .int .i64 x, .func (.func 44) #[] #[]] W (Rets (FindG W l x)) := by
  have hmono : ∀ p q, p < q → q < l.length → (l.getD p default).t < (l.getD q default).t := by
    intro p q hpq hq
    have := (List.pairwise_iff_getElem.1 hr) p q (by omega) hq hpq
    rwa [List.getD_eq_getElem?_getD, List.getD_eq_getElem?_getD, List.getElem?_eq_getElem (by omega), List.getElem?_eq_getElem hq]
  have HM := Lib.hid hmono
  have HL := Lib.hid hl
  clear hmono hl hr
  go_enter Try.func43, Try.ntmps43
  go_wp2_with fail
  go_loopw [9, 10, 11] (fun v9 v10 v11 wr => ∃ i j : Nat, i ≤ j ∧ j ≤ l.length ∧ v9 = .int .i64 i ∧ v10 = .int .i64 j ∧ Fr0 W wr ∧ Hid (∀ k, k < i → (l.getD k default).t < x) ∧ Hid (∀ k, j ≤ k → k < l.length → x ≤ (l.getD k default).t)) (fun v9 v10 _ _ => (intOf v10).toNat - (intOf v9).toNat)
  case atStart => exact ⟨0, l.length, by omega, by omega, rfl, rfl, Fr.refl _ _, Lib.hid (fun k hk => by omega), Lib.hid (fun k h1 h2 => by omega)⟩
  case round =>
    obtain ⟨i, j, hij, hj, rfl, rfl, hf, HLo, HHi⟩ := hrel
    by_cases hlt : i < j
    · have hlt' : (i : Int) < (j : Int) := by omega
      obtain ⟨h, hh⟩ : ∃ h, h = (i + j) / 2 := ⟨_, rfl⟩
      have h1 : i ≤ h := by omega
      have h2 : h < j := by omega
      have h3 : h < l.length := by omega
      rcases (HL.out.fr0 hf).2 with e | ⟨bk, o, rfl, hc⟩
      · rw [e] at h3; cases h3
      obtain ⟨c1, c2, c3⟩ := hc h h3
      have hadd : IntKind.i64.wrap ((i : Int) + (j : Int)) = (i : Int) + (j : Int) := by rw [IntKind.wrap_i64]; omega
      have hdv : ((i : Int) + (j : Int)) / 2 = (h : Int) := by omega
      have h3' : (h : Int) < (l.length : Int) := by omega
      clear hc hh
      generalize hu : l.getD h default = u at c1 c2 c3
      have HU := Lib.hid hu
      clear hu
      have HC := Lib.hid (Mask1_is u x wr)
      have hwr : IntKind.i64.wrap ((h : Int) + 1) = (h : Int) + 1 := by rw [IntKind.wrap_i64]; omega
      by_cases hlx : u.t < x
      · have b0 : cmpI u.t x < 0 := (cmpI_lt _ _).2 hlx
        have HLo2 : Hid (∀ k, k < h + 1 → (l.getD k default).t < x) := Lib.hid (fun k hk => by
          by_cases e : k = h
          · rw [e, HU.out]; exact hlx
          · have := HM.out k h (by omega) h3
            rw [HU.out] at this; omega)
        generalize cmpI u.t x = r at HC b0
        clear hlx
        go_wp2_with (go_at_call 44; refine (HC.out).mono ?_; rintro e w2 ⟨_, rfl, rfl, hf2⟩)
        go_roundw
        case rel => exact ⟨h + 1, j, by omega, hj, by go_num, rfl, hf.trans0 hf2, HLo2, HHi⟩
        case measure => simp [intOf]; omega
      · have b0 : ¬ cmpI u.t x < 0 := fun h => hlx ((cmpI_lt _ _).1 h)
        have HHi2 : Hid (∀ k, h ≤ k → k < l.length → x ≤ (l.getD k default).t) := Lib.hid (fun k hk hk2 => by
          by_cases e : k = h
          · rw [e, HU.out]; omega
          · have := HM.out h k (by omega) hk2
            rw [HU.out] at this; omega)
        generalize cmpI u.t x = r at HC b0
        clear hlx
        go_wp2_with (go_at_call 44; refine (HC.out).mono ?_; rintro e w2 ⟨_, rfl, rfl, hf2⟩)
        go_roundw
        case rel => exact ⟨i, h, h1, by omega, rfl, rfl, hf.trans0 hf2, HLo, HHi2⟩
        case measure => simp [intOf]; omega
    · have hij2 : i = j := by omega
      subst hij2
      have hge : ¬ (i : Int) < (i : Int) := by omega
      by_cases hil : i < l.length
      · have hil' : (i : Int) < (l.length : Int) := by omega
        rcases (HL.out.fr0 hf).2 with e | ⟨bk, o, rfl, hc⟩
        · rw [e] at hil; cases hil
        obtain ⟨c1, c2, c3⟩ := hc i hil
        clear hc
        have HDE : Hid (cmpI (l.getD i default).t x = 0 ↔ i < l.length ∧ (l.getD i default).t = x) := Lib.hid (by
          rw [cmpI_zero]; exact ⟨fun h => ⟨hil, h⟩, fun h => h.2⟩)
        have HUU : Hid (∃ u, l.getD i default = u) := Lib.hid ⟨_, rfl⟩
        obtain ⟨u, hu⟩ := HUU.out
        have HU := Lib.hid hu
        rw [hu] at c1 c2 c3
        rw [show cmpI (l.getD i default).t x = cmpI u.t x by rw [hu]] at HDE
        clear hu HUU
        have HC := Lib.hid (Mask1_is u x wr)
        generalize cmpI u.t x = r at HC HDE
        go_wp2_with (go_at_call 44; refine (HC.out).mono ?_; rintro e w2 ⟨_, rfl, rfl, hf2⟩)
        go_ret2
        exact ⟨_, rfl, hf.trans0 hf2, i, _, hj, rfl, by have := HDE.out; simpa using this, HLo.out, HHi.out⟩
      · have hil' : ¬ (i : Int) < (l.length : Int) := by omega
        have HDE : Hid (¬ (i < l.length ∧ (l.getD i default).t = x)) := Lib.hid (fun h => by omega)
        go_wp2_with fail
        go_ret2
        exact ⟨_, rfl, hf, i, false, hj, rfl, ⟨fun h => (by cases h), fun h => absurd h HDE.out⟩, HLo.out, HHi.out⟩
/-- The mask of an arc; 0 where there is none. -/
def maskG (n : Nat) (J : List ArcI) (u t : Int) : Int := if 0 ≤ u ∧ u < n then ((rowL J u.toNat).find? (fun a => a.t == t)).elim 0 (·.m) else 0
theorem row_no {W : World} {g n ab c : Nat} {J : List ArcI} {A : Option Addr} (h : IsG W g n J ab A c) (v : Int) (hv : ¬ (0 ≤ v ∧ v < n)) :
    Calls Try.prog 42 #[.pointer (some ⟨g, 0, none⟩), .int .i64 v] W (Rets fun v' w' => v' = .slice none 0 0 ∧ Fr0 W w') := by
  have HL := Lib.hid (LenG_is h)
  clear h
  by_cases h0 : v < 0
  · go_enter Try.func42, Try.ntmps42
    go_wp2_with (go_at_call 53; refine HL.out.mono ?_; rintro e w' ⟨rfl, rfl⟩)
    go_ret
    exact ⟨_, rfl, rfl, Fr.refl _ _⟩
  · have h1 : (n : Int) ≤ v := by omega
    go_enter Try.func42, Try.ntmps42
    go_wp2_with (go_at_call 53; refine HL.out.mono ?_; rintro e w' ⟨rfl, rfl⟩)
    go_ret
    exact ⟨_, rfl, rfl, Fr.refl _ _⟩
theorem find_at {l : List ArcI} {x : Int} {i : Nat} (hi : i < l.length) (hx : (l.getD i default).t = x) (hlo : ∀ k, k < i → (l.getD k default).t < x) : l.find? (fun a => a.t == x) = some (l.getD i default) := by
  rw [List.find?_eq_some_iff_getElem]
  refine ⟨by simpa using hx, i, hi, ?_, fun j hj => ?_⟩
  · rw [List.getD_eq_getElem?_getD, List.getElem?_eq_getElem hi]; rfl
  · have := hlo j hj
    rw [List.getD_eq_getElem?_getD, List.getElem?_eq_getElem (by omega)] at this
    simp only [Option.getD_some] at this
    simp; omega
theorem find_no {l : List ArcI} {x : Int} {i : Nat} (hi : ¬ (i < l.length ∧ (l.getD i default).t = x)) (hlo : ∀ k, k < i → (l.getD k default).t < x) (hhi : ∀ k, i ≤ k → k < l.length → x ≤ (l.getD k default).t) (hr : l.Pairwise (fun a b => a.t < b.t)) : l.find? (fun a => a.t == x) = none := by
  rw [List.find?_eq_none]
  intro a ha
  obtain ⟨k, hk, rfl⟩ := List.mem_iff_getElem.1 ha
  have e : l.getD k default = l[k] := by rw [List.getD_eq_getElem?_getD, List.getElem?_eq_getElem hk]; rfl
  by_cases h1 : k < i
  · have := hlo k h1; rw [e] at this; simp; omega
  · by_cases h2 : k = i
    · subst h2
      rw [e] at hi
      simp; intro h; exact hi ⟨hk, h⟩
    · have h3 := hhi i (Nat.le_refl _) (by omega)
      have := (List.pairwise_iff_getElem.1 hr) i k (by omega) hk (by omega)
      have e2 : l.getD i default = l[i]'(by omega) := by rw [List.getD_eq_getElem?_getD, List.getElem?_eq_getElem (by omega)]; rfl
      rw [e2] at h3
      simp; omega
set_option maxHeartbeats 4000000 in
theorem MaskG_is {W : World} {g n ab c : Nat} {J : List ArcI} {A : Option Addr} (h : IsG W g n J ab A c) (hr : ∀ v, (rowL J v).Pairwise (fun a b => a.t < b.t)) (hsm : J.length ≤ 1000000) (u t : Int) :
    Calls Try.prog 20 #[.pointer (some ⟨g, 0, none⟩), .int .i64 u, .int .i64 t] W (Rets (IntPost (maskG n J u t) W)) := by
  by_cases hu : 0 ≤ u ∧ u < n
  · obtain ⟨v, rfl⟩ : ∃ v : Nat, u = (v : Int) := ⟨u.toNat, by omega⟩
    have hv : v < n := by omega
    have HROW := Lib.hid (row_is h v hv)
    have hat : ArcsAt W (rowA A c (cntF J v)) (rowL J v) := rowL_at h.gx.2.2.1 h.gx.2.2.2.1
    have hlen := rowL_len J v
    have hle := cnt_add_le J v
    have hls : (rowL J v).length ≤ 1000000 := by omega
    have hrv := hr v
    have HG : Hid (maskG n J v t = ((rowL J v).find? (fun a => a.t == t)).elim 0 (·.m)) := Lib.hid (by unfold maskG; rw [if_pos hu]; rfl)
    clear h hr hlen hle hu
    generalize rowA A c (cntF J v) = B at HROW hat
    generalize rowL J v = l at *
    have HF := Lib.hid (fun (w : World) (d : Nat) (f : Fr0 W w) => FindG_is (c := d) (hat.fr0 f) hls hrv t)
    have HAT := Lib.hid hat
    have HRV := Lib.hid hrv
    clear hat hrv
    unfold FindG at HF
    unfold RowPost at HROW
    go_enter Try.func20, Try.ntmps20
    go_upto_region 3 with (first
      | (go_at_call 43; refine (HF.out _ d hf1).mono ?_; rintro e w2 ⟨_, rfl, hf2, i, b, hi, rfl, hbi, hlo, hhi⟩)
      | (go_at_call 42; refine (HROW.out).mono ?_; rintro e w1 ⟨_, rfl, d, rfl, hf1⟩))
    have HLo := Lib.hid hlo
    have HHi := Lib.hid hhi
    clear hlo hhi
    by_cases hfd : i < l.length ∧ (l.getD i default).t = t
    · obtain ⟨hil, htt⟩ := hfd
      have hd : b = true := hbi.2 ⟨hil, htt⟩
      subst hd
      have hfind := find_at hil htt HLo.out
      have HRES : Hid (maskG n J v t = (l.getD i default).m) := Lib.hid (by rw [HG.out, hfind]; rfl)
      have hil' : (i : Int) < (l.length : Int) := by omega
      rcases (HAT.out.fr0 (hf1.trans0 hf2)).2 with e | ⟨bk, o, rfl, hc⟩
      · rw [e] at hil; cases hil
      obtain ⟨c1, c2, c3⟩ := hc i hil
      clear hc hfind htt hbi
      generalize l.getD i default = a at c1 c2 c3 HRES
      go_wp2_with fail
      go_ret
      exact ⟨_, rfl, by rw [HRES.out]; rfl, hf1.trans0 hf2⟩
    · have hd : b = false := by
        cases b with
        | false => rfl
        | true => exact absurd (hbi.1 rfl) hfd
      subst hd
      have HRES : Hid (maskG n J v t = 0) := Lib.hid (by rw [HG.out, find_no hfd HLo.out HHi.out HRV.out]; rfl)
      clear hfd hbi
      go_wp2_with fail
      go_ret
      exact ⟨_, rfl, by rw [HRES.out]; rfl, hf1.trans0 hf2⟩
  · have HROW := Lib.hid (row_no h u hu)
    have HF := Lib.hid (fun (w : World) => FindG_is (W := w) (A := none) (c := 0) (l := []) ⟨by simp, .inl rfl⟩ (by simp) List.Pairwise.nil t)
    have HG : Hid (maskG n J u t = 0) := Lib.hid (by unfold maskG; rw [if_neg hu])
    clear h hr hu
    unfold FindG at HF
    go_enter Try.func20, Try.ntmps20
    go_wp2_with (first
      | (go_at_call 43; refine (HF.out _).mono ?_; rintro e w2 ⟨_, rfl, hf2, i, b, hi, rfl, hbi, hlo, hhi⟩; obtain rfl : b = false := (by cases b with | false => rfl | true => exact absurd (hbi.1 rfl).1 (Nat.not_lt_zero i)))
      | (go_at_call 42; refine (HROW.out).mono ?_; rintro e w1 ⟨_, rfl, rfl, hf1⟩))
    all_goals go_ret
    all_goals exact ⟨_, rfl, by rw [HG.out]; rfl, hf1.trans0 hf2⟩
end Go.Proofs.Ytidpmbbkpclccaa
