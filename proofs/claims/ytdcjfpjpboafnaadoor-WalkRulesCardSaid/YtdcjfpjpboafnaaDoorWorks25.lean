/- Build25, WalkPure, Works25, Law25A, in one text. -/
import Derived.Test.YtdcjfpjpboafnaaDoorReachA
import Derived.Test.YtdcjfpjpboafnaaDoorAgree
import Derived.Test.YtdcjfpjpboafnaaDoorTurnPure
import Derived.Test.YtdcjfpjpboafnaaDoorLeastW
import Derived.Test.YtdcjfpjpboafnaaDoorRefFirst
import Derived.Test.YtdcjfpjpboafnaaDoorRefDist
namespace Go.Proofs.YtdcjfpjpboafnaaDoor
set_option linter.all false
open Go.RowKit
attribute [local go_sem ↓] appendH_eq
set_option maxRecDepth 100000

def Build25Post (W : World) (n : Nat) (l : List ArcI) (v : Value) (w' : World) : Prop :=
  ∃ r p pt J J', v = .pointer r ∧ Fr0 W w' ∧ IsR w' r (some ⟨p, 0, none⟩) (some ⟨pt, 0, none⟩) ∧ GP w' (some ⟨p, 0, none⟩) n J ∧ GP w' (some ⟨pt, 0, none⟩) n J' ∧ Built n l J ∧ Built n (turnL J n) J'
def NewSPost (W : World) (p : Option Addr) (n : Nat) (J : List ArcI) (v : Value) (w' : World) : Prop :=
  ∃ r pt J', v = .pointer r ∧ Fr0 W w' ∧ IsR w' r p (some ⟨pt, 0, none⟩) ∧ GP w' p n J ∧ GP w' (some ⟨pt, 0, none⟩) n J' ∧ Built n (turnL J n) J'
theorem NewS_is {W : World} {p : Option Addr} {n : Nat} {J : List ArcI} (hg : GP W p n J) (hok : JOk n J) (hsm : J.length ≤ 1000000) :
    Calls Tryd.prog 28 #[.pointer p] W (Rets (NewSPost W p n J)) := by
  have HT := Lib.hid (TurnG_is hg hok hsm)
  have HG := Lib.hid hg
  clear hg
  go_enter Tryd.func28, Tryd.ntmps28
  go_wp2_with (go_at_call 43; refine (HT.out).mono ?_; rintro e w1 ⟨_, rfl, g, J', rfl, k1, k2, k3⟩)
  go_ret
  have hf : Fr0 w1 (w1.alloc (.cells #[.pointer p, .pointer (some ⟨g, 0, none⟩)] 91)) := fr_alloc _ _ _
  exact ⟨_, rfl, _, _, J', rfl, k1.trans0 hf, .inr ⟨_, rfl, World.alloc_heap_new _ _⟩, HG.out.fr0 (k1.trans0 hf), k3.fr0 hf, k2⟩
set_option maxHeartbeats 4000000 in
theorem build25_is {W : World} {A : Option Addr} {c : Nat} {l : List ArcI} (hl : ArcsAt W A l) (hsm : l.length ≤ 1000000) {n : Nat} (hn : n ≤ 1024) (hall : l.any (badI n) = false) :
    Calls Tryd.prog 14 #[.int .i64 n, .slice A l.length c] W (Rets (Build25Post W n l)) := by
  obtain ⟨i0, hi0, hz0, hz1, hz2⟩ := info_parts info_arc
  have HA := Lib.hid hl
  have HALL := Lib.hid hall
  clear hl hall
  go_enter Tryd.func14, Tryd.ntmps14
  go_wp2_with fail
  go_loopw [5, 6] (fun v5 v6 wr => ∃ i : Nat, i ≤ l.length ∧ v6 = .int .i64 i ∧ Fr0 W wr ∧ Hid (wr.ownsRow W.heap.size 65 3 v5 i (arcCells (l.take i)))) (fun _ v6 _ => l.length - (intOf v6).toNat)
  case atStart => exact ⟨0, by omega, rfl, Fr.refl _ _, Lib.hid (own_nil _ _ _ _)⟩
  case round =>
    obtain ⟨i, hi, rfl, hf, HO⟩ := hrel
    obtain ⟨A5, c5, e5⟩ := own_form HO.out
    subst e5
    by_cases hlt : i < l.length
    · have hlt' : (i : Int) < (l.length : Int) := by omega
      rcases (HA.out.fr0 hf).2 with e | ⟨b, o, rfl, hc⟩
      · rw [e] at hlt; cases hlt
      obtain ⟨c1, c2, c3⟩ := hc i hlt
      have htk := take_snoc_a l i hlt
      generalize l.getD i default = a at c1 c2 c3 htk
      have HTK := Lib.hid htk
      clear htk hc
      have hsz := hf.size
      have hfX : Fr0 wr (wr.alloc (.cells #[.int .i64 a.f, .int .i64 a.t, .int .i64 a.m] 65)) := fr_alloc _ _ _
      have ho1 := own_fr0 HO.out (hfX.trans0 (fr_drew _ _))
      have hnew : ∀ j u, (arcV a)[j]? = some u → (wr.alloc (.cells #[.int .i64 a.f, .int .i64 a.t, .int .i64 a.m] 65)).drew.cell? ((⟨wr.heap.size, 0, none⟩ : Addr).add j) = some u := cell3_new wr _ rfl a _
      obtain ⟨v', w', hap, ho2, hgb, _⟩ := run_append_own (P := Tryd.prog) (w := (wr.alloc (.cells #[.int .i64 a.f, .int .i64 a.t, .int .i64 a.m] 65)).drew) W.heap.size 64 64 65 i0 (.agg #[.int .i64 0, .int .i64 0, .int .i64 0]) 3 24 Tryd.underlying64 hi0 hz0 hz1 hz2 rfl (by decide) (.slice A5 i c5) i (arcCells (l.take i)) ho1 ⟨wr.heap.size, 0, none⟩ 1 1 (arcV a) rfl hnew (arcV_one a) (by unfold maxLen; omega) (by omega) (Nat.le_trans hsz (by show wr.heap.size ≤ (wr.alloc _).heap.size; rw [World.size_alloc]; exact Nat.le_succ _))
      rw [appendH_eq] at hap
      have hfA : Fr0 W w' := (hf.trans0 (hfX.trans0 (fr_drew _ _))).trans (append_fr0 ho1 hgb) (fun j hj e => own_old ho1 hj e)
      obtain ⟨A6, c6, rfl⟩ := own_form ho2
      have HO2 := Lib.hid ho2
      clear ho1 ho2 hgb hnew
      go_wp2_with fail
      go_region
      go_wp2_with fail
      go_roundw
      case rel => exact ⟨i + 1, by omega, by go_num, hfA, Lib.hid (by rw [HTK.out, ← arcCells_snoc]; exact HO2.out)⟩
      case measure => simp [intOf]; omega
    · have hall := HALL.out
      have hie : i = l.length := by omega
      subst hie
      have ho := HO.out
      rw [List.take_of_length_le (Nat.le_refl _)] at ho
      have HN := Lib.hid (NewG_is (c := c5) (own_arcs ho (by omega)) (by omega) hn HALL.out)
      clear ho
      have hbuilt : ∀ (w' : World) (g : Nat) (s : List ArcI), s.Perm (l.filter (fun a => !dropI a)) → SortedOn s 0 s.length → (∃ ab A c, GX w' g n (joinL s) ab A c) → Built n l (joinL s) ∧ GP w' (some ⟨g, 0, none⟩) n (joinL s) := fun w' g s h1 h2 ⟨ab, A, c, h3⟩ =>
        ⟨⟨hall, s, h1, h2, rfl⟩, .inr ⟨g, ab, A, c, rfl, built_isG hn h1 h2 hall h3⟩⟩
      have HBU := Lib.hid hbuilt
      clear hbuilt hall
      go_wp2_with (first
        | (go_at_call 27; refine (HN.out).mono ?_; rintro e w1 ⟨_, rfl, g, s, rfl, k1, k2, k3, k4, k5⟩; obtain ⟨b1, b2⟩ := HBU.out _ _ _ k3 k4 k5; have hbl := b1.len; have HNR := Lib.hid (NewS_is b2 b1.ok (by omega)))
        | (go_at_call 28; refine (HNR.out).mono ?_; rintro e w2 ⟨_, rfl, r, pt, J', rfl, z1, z2, z3, z4, z5⟩))
      go_ret
      exact ⟨_, rfl, _, _, _, _, J', rfl, (hf.trans0 k1).trans0 z1, z2, z3, z4, b1, z5⟩
/- A func value against nil. -/
def SetIsPost (W : World) (xs : List Int) (v : Value) (w' : World) : Prop :=
  ∃ g a, v = .pointer (some ⟨g, 0, none⟩) ∧ W.heap.size ≤ g ∧ W.heap.size ≤ a ∧ Fr0 W w' ∧ IsBits w' g a 100 (putP 100 (fun _ => false) xs)
theorem set25_is {W : World} {A : Option Addr} {c : Nat} {xs : List Int} (hT : Tab W) (hA : IntsAt W A xs) :
    Calls Tryd.prog 15 #[.slice A xs.length c] W (Rets (SetIsPost W xs)) := by
  have HN := Lib.hid (New_is 100 W hT)
  have HA := Lib.hid hA
  clear hA
  go_enter Tryd.func15, Tryd.ntmps15
  go_wp2_with (first
    | (go_at_call 29; refine (HN.out).mono ?_; rintro e w1 ⟨_, rfl, mg, ma, rfl, k1, k2, k3, k4⟩; rw [show (max 0 (min (100 : Int) 65536)).toNat = 100 by decide] at k4; have HP := Lib.hid (Put_is (c := c) k4 (HA.out.fr0 k3)))
    | (go_at_call 30; refine (HP.out).mono ?_; rintro e w2 ⟨rfl, z1, z2⟩))
  go_ret
  exact ⟨_, rfl, mg, ma, rfl, k1, k2, k3.trans z1 (fun j hj e => by omega), z2⟩
end Go.Proofs.YtdcjfpjpboafnaaDoor
namespace Go.Proofs.YtdcjfpjpboafnaaDoor
set_option linter.all false
open Go.RowKit

theorem bitT_row {n : Nat} {l J : List ArcI} (h : Built n l J) (a : Int) (u w : Nat) : bitT a (maskR n (mxL l) (u : Int) (w : Int)) = rowM n J a u w := h.out a u w
theorem out_of {n : Nat} {l J : List ArcI} (h : Built n l J) (a : Int) {pw : Nat → Bool} (hpw : ∀ u, pw u = true → u < n) (u : Nat) : OutOf pw (fun u w => bitT a (maskR n (mxL l) (u : Int) (w : Int))) u (nextL J u a pw) := by
  refine ⟨fun x hx => ?_, fun w hw hp => ?_⟩
  · have hin : inW pw x = true := by
      rw [nextL, List.mem_map] at hx
      obtain ⟨y, hy, e⟩ := hx
      rw [← e]
      exact (List.mem_filter.1 hy).2
    rw [inW, Bool.and_eq_true, decide_eq_true_iff] at hin
    obtain ⟨w, rfl⟩ : ∃ w : Nat, x = (w : Int) := ⟨x.toNat, by omega⟩
    rw [Int.toNat_natCast] at hin
    have h2 := next_arc.1 ⟨hx, hpw w hin.2⟩
    rw [arcB, Bool.and_eq_true] at h2
    exact ⟨w, rfl, (bitT_row h a u w).trans h2.1, hin.2⟩
  · have h1 := (bitT_row h a u w).symm.trans hw
    exact (next_arc.2 (show arcB n J a pw u w = true by rw [arcB, h1, hp]; rfl)).1
theorem in_of {n : Nat} {l J J' : List ArcI} (h : Built n l J) (h' : Built n (turnL J n) J') (a : Int) {pw : Nat → Bool} (hpw : ∀ u, pw u = true → u < n) (u : Nat) : InOf pw (fun u w => bitT a (maskR n (mxL l) (u : Int) (w : Int))) u (nextL J' u a pw) := by
  refine ⟨fun x hx => ?_, fun w hw hp => ?_⟩
  · have hin : inW pw x = true := by
      rw [nextL, List.mem_map] at hx
      obtain ⟨y, hy, e⟩ := hx
      rw [← e]
      exact (List.mem_filter.1 hy).2
    rw [inW, Bool.and_eq_true, decide_eq_true_iff] at hin
    obtain ⟨w, rfl⟩ : ∃ w : Nat, x = (w : Int) := ⟨x.toNat, by omega⟩
    rw [Int.toNat_natCast] at hin
    have h2 := next_arc.1 ⟨hx, hpw w hin.2⟩
    rw [arcB, Bool.and_eq_true] at h2
    exact ⟨w, rfl, (bitT_row h a w u).trans ((turn_arc h h' a u w).trans h2.1)⟩
  · have h1 := (bitT_row h a w u).symm.trans hw
    rw [turn_arc h h' a u w] at h1
    exact (next_arc.2 (show arcB n J' a pw u w = true by rw [arcB, h1, hp]; rfl)).1
theorem FarOk.congr {n : Nat} {pw pw' : Nat → Bool} {E : Nat → Bool → Nat → Bool → Bool} {tt : Nat → Bool} {far : Nat → Bool → Option Nat} (h : FarOk n pw E tt far) (he : ∀ v, v < n → pw v = pw' v) : FarOk n pw' E tt far where
  zero v b := by
    rw [h.zero v b]
    constructor
    · rintro ⟨h1, h2, h3, h4⟩; exact ⟨h1, h2, h3, (he v h3) ▸ h4⟩
    · rintro ⟨h1, h2, h3, h4⟩; exact ⟨h1, h2, h3, (he v h3).trans h4⟩
  dom v b k e := by
    obtain ⟨h1, h2⟩ := h.dom v b k e
    exact ⟨h1, (he v h1) ▸ h2⟩
  step := h.step
  up w c k v b e1 e2 h1 h2 := h.up w c k v b e1 e2 h1 ((he v h1).trans h2)
theorem OutsR.congr {n : Nat} {pw pw' : Nat → Bool} {E : Nat → Bool → Nat → Bool → Bool} {outs : Nat → List Nat} (h : OutsR n pw E outs) (he : ∀ v, v < n → pw v = pw' v) : OutsR n pw' E outs where
  rise := h.rise
  lead u d w c e hw hp := h.lead u d w c e hw ((he w hw).trans hp)
  inn u w hw := by
    obtain ⟨h1, h2⟩ := h.inn u w hw
    exact ⟨h1, (he w h1) ▸ h2⟩
theorem FarOk.codes {n : Nat} {pw : Nat → Bool} {E : Nat → Bool → Nat → Bool → Bool} {tt : Nat → Bool} {far : Nat → Bool → Option Nat} (h : FarOk n pw E tt far) : ∀ (k v : Nat) (b : Bool), far v b = some k →
    ∃ L : List Nat, L.length = k + 1 ∧ L.Nodup ∧ ∀ x ∈ L, ∃ u d j, far u d = some j ∧ j ≤ k ∧ x = 2 * u + d.toNat
  | 0, v, b, e => ⟨[2 * v + b.toNat], rfl, by simp, fun x hx => ⟨v, b, 0, e, Nat.le_refl _, by simpa using hx⟩⟩
  | k + 1, v, b, e => by
    obtain ⟨w, c, _, h2⟩ := h.step v b k e
    obtain ⟨L, l1, l2, l3⟩ := h.codes k w c h2
    refine ⟨(2 * v + b.toNat) :: L, by simp [l1], List.nodup_cons.2 ⟨fun hm => ?_, l2⟩, fun x hx => ?_⟩
    · obtain ⟨u, d, j, e1, e2, e3⟩ := l3 _ hm
      have hud : u = v ∧ d = b := by cases b <;> cases d <;> simp at e3 ⊢ <;> omega
      obtain ⟨rfl, rfl⟩ := hud
      rw [e] at e1
      injection e1 with e1
      omega
    · rcases List.mem_cons.1 hx with rfl | hx
      · exact ⟨v, b, k + 1, e, Nat.le_refl _, rfl⟩
      · obtain ⟨u, d, j, e1, e2, e3⟩ := l3 _ hx
        exact ⟨u, d, j, e1, by omega, e3⟩
theorem FarOk.lt {n : Nat} {pw : Nat → Bool} {E : Nat → Bool → Nat → Bool → Bool} {tt : Nat → Bool} {far : Nat → Bool → Option Nat} (h : FarOk n pw E tt far) {v : Nat} {b : Bool} {k : Nat} (e : far v b = some k) : k < 2 * n := by
  obtain ⟨L, l1, l2, l3⟩ := h.codes k v b e
  have := l2.length_le_of_subset (l₂ := List.range (2 * n)) (fun x hx => by
    obtain ⟨u, d, j, e1, _, e3⟩ := l3 x hx
    have := (h.dom _ _ _ e1).1
    rw [List.mem_range]
    cases d <;> simp at e3 <;> omega)
  rw [l1, List.length_range] at this
  omega
/-- The set of a law. -/
theorem pw_eq {n : Nat} (hn : n ≤ 100) (ws : List Int) : ∀ v, v < n → (fun k => decide (k < n) && putP 100 (fun _ => false) ws k) v = (fun v : Nat => decide ((v : Int) ∈ ws)) v := by
  intro v hv
  have h1 : v < 100 := by omega
  simp [putP, hv, h1]
def L25 : List ArcI := [⟨0, 1, 1⟩, ⟨1, 0, 4⟩]
def far25 (v : Nat) (b : Bool) : Option Nat := if v = 0 then (if b then some 0 else some 2) else if v = 1 then (if b then none else some 1) else none
def pw25 : Nat → Bool := fun k => decide (k < 2) && decide (k < 2)
theorem far25_ok : FarOk 2 pw25 (refE 2 (mxL L25) 3 4 3) (fun u => decide ((u : Int) = 0)) far25 where
  zero v b := by
    rcases v with _ | _ | v <;> cases b <;> simp [far25, pw25] <;> omega
  dom v b k := by
    rcases v with _ | _ | v <;> cases b <;> simp [far25, pw25]
  step v b k h := by
    rcases v with _ | _ | v
    · cases b
      · simp [far25] at h; subst h; exact ⟨1, false, by decide, by decide⟩
      · simp [far25] at h
    · cases b
      · simp [far25] at h; subst h; exact ⟨0, true, by decide, by decide⟩
      · simp [far25] at h
    · simp [far25] at h
  up w c k v b h1 h2 h3 _ := by
    rcases w with _ | _ | w
    · rcases v with _ | _ | v
      · exact absurd h2 (by cases b <;> cases c <;> decide)
      · cases b
        · exact ⟨1, by decide, by cases c <;> simp [far25] at h1 <;> omega⟩
        · exact absurd h2 (by cases c <;> decide)
      · omega
    · rcases v with _ | _ | v
      · cases b
        · exact ⟨2, by decide, by cases c <;> simp [far25] at h1; omega⟩
        · exact ⟨0, by decide, by omega⟩
      · exact absurd h2 (by cases b <;> cases c <;> decide)
      · omega
    · simp [far25] at h1
end Go.Proofs.YtdcjfpjpboafnaaDoor
namespace Go.Proofs.YtdcjfpjpboafnaaDoor
set_option linter.all false
open Go.RowKit
attribute [local go_sem] run_eql_struct
set_option maxRecDepth 100000

theorem arcs_lit {W : World} {N t : Nat} {l : List ArcI} {fz : Nat × Nat} (h : W.heap[N]? = some (.cells (arcCells l).toArray t fz)) (hl : l.length ≤ 17592186044416) : ArcsAt W (some ⟨N, 0, none⟩) l := by
  refine ⟨hl, .inr ⟨N, 0, rfl, fun j hj => ?_⟩⟩
  have hc : ∀ d, d < 3 → W.cell? ⟨N, 0 + j * 3 + d, none⟩ = (arcV l[j])[d]? := fun d hd => by
    have := arcCells_get l j hj d hd
    rw [Nat.zero_add, ← this]
    simp [World.cell?, h]
  have e : l.getD j default = l[j] := by rw [List.getD_eq_getElem?_getD, List.getElem?_eq_getElem hj]; rfl
  rw [e]
  exact ⟨hc 0 (by omega), hc 1 (by omega), hc 2 (by omega)⟩
theorem rule10 {W : World} {v : Value} {w' : World} (h : RulePost 10 W v w') : Fr0 W w' ∧ v = .tuple #[.agg #[.int .i64 3, .int .i64 4, .int .i64 3], .bool true] := h
def Least25Post (W : World) (v : Value) (w' : World) : Prop := ∃ A c, v = .tuple #[.slice A 2 c, .bool true] ∧ Fr0 W w' ∧ IntsAt w' A [0, 1]
theorem pw25_lt : ∀ u, pw25 u = true → u < 2 := fun u h => by simp [pw25] at h; exact h
theorem outs25 : OutsR 2 pw25 (refE 2 (mxL L25) 3 4 3) (outsD 2 (mxL L25) [0, 1]) :=
  (outsD_is 2 (mxL L25) 3 4 3 [0, 1]).congr (fun v hv => by rcases v with _ | _ | v <;> first | decide | omega)
theorem first25 : firstR (outsD 2 (mxL L25) [0, 1]) (fitsD 2 (mxL L25) 3 4 3 0) (2 - 1) [0] = some [0, 1] := by decide
theorem least25_is {W : World} {r : Option Addr} {p pt : Nat} {J J' : List ArcI} (hR : IsR W r (some ⟨p, 0, none⟩) (some ⟨pt, 0, none⟩)) (hG : GP W (some ⟨p, 0, none⟩) 2 J) (hGt : GP W (some ⟨pt, 0, none⟩) 2 J') (h1 : Built 2 L25 J) (h2 : Built 2 (turnL J 2) J') (hT : Tab W) {g a : Nat} (hI : IsBits W g a 2 (fun k => decide (k < 2))) :
    Calls Tryd.prog 18 #[.pointer r, .pointer (some ⟨g, 0, none⟩), .agg #[.int .i64 3, .int .i64 4, .int .i64 3], .int .i64 0] W (Rets (Least25Post W)) := by
  refine (LeastW_is (outs := outsD 2 (mxL L25) [0, 1]) (fits := fitsD 2 (mxL L25) 3 4 3 0) hR hG hGt hT hI (by omega) (Nat.le_trans h1.len (by decide)) (t := 0) (by decide) (fun u _ => in_of h1 h2 3 pw25_lt u) (fun u _ => in_of h1 h2 4 pw25_lt u) (fun u _ => in_of h1 h2 3 pw25_lt u) (fun u _ => out_of h1 3 pw25_lt u) (fun u _ => out_of h1 4 pw25_lt u) (fun u _ => out_of h1 3 pw25_lt u) (fitD_is 2 (mxL L25) 3 4 3 0) outs25).mono ?_
  rintro e w' ⟨_, rfl, hf, far, hF, h⟩
  have e0 : far 0 false = some 2 := hF.uniq far25_ok 0 false
  have e1 : numF far 0 false = 2 := by rw [numF, if_pos (by omega), show (0 : Int).toNat = 0 from rfl, e0]; rfl
  rcases h with ⟨hn, _⟩ | ⟨k0, ys, vo, hk, rfl, ho, hfi⟩
  · rw [e1] at hn; omega
  · rw [e1] at hk
    have hk2 : k0 = 2 := by omega
    subst hk2
    have hys : ys = [0, 1] := Option.some.inj (hfi.symm.trans first25)
    subst hys
    obtain ⟨A, c, rfl⟩ := own_form ho
    exact ⟨_, rfl, A, c, rfl, hf, own_ints ho (by decide)⟩
def Dist25Post (W : World) (v : Value) (w' : World) : Prop := ∃ A c A' c', v = .tuple #[.slice A 2 c, .slice A' 2 c'] ∧ Fr0 W w' ∧ IntsAt w' A [2, 1] ∧ IntsAt w' A' [0, -1]
theorem dist25_is {W : World} {r : Option Addr} {p pt : Nat} {J J' : List ArcI} (hR : IsR W r (some ⟨p, 0, none⟩) (some ⟨pt, 0, none⟩)) (hG : GP W (some ⟨p, 0, none⟩) 2 J) (hGt : GP W (some ⟨pt, 0, none⟩) 2 J') (h1 : Built 2 L25 J) (h2 : Built 2 (turnL J 2) J') (hT : Tab W) {g a : Nat} (hI : IsBits W g a 2 (fun k => decide (k < 2))) :
    Calls Tryd.prog 13 #[.pointer r, .pointer (some ⟨g, 0, none⟩), .agg #[.int .i64 3, .int .i64 4, .int .i64 3], .int .i64 0] W (Rets (Dist25Post W)) := by
  refine (DistW_is hR hG hGt hT hI (by omega) (t := 0) (by decide) (fun u _ => in_of h1 h2 3 pw25_lt u) (fun u _ => in_of h1 h2 4 pw25_lt u) (fun u _ => in_of h1 h2 3 pw25_lt u)).mono ?_
  rintro e w' ⟨_, rfl, hf, far, va, vb, hF, rfl, ha, hb⟩
  have hff : far = far25 := by funext v b; exact hF.uniq far25_ok v b
  subst hff
  obtain ⟨A, c, rfl⟩ := own_form ha
  obtain ⟨A', c', rfl⟩ := own_form hb
  exact ⟨_, rfl, A, c, A', c', rfl, hf, own_intsI (l := [2, 1]) ha (by decide), own_intsI (l := [0, -1]) hb (by decide)⟩
set_option maxHeartbeats 8000000 in
theorem works25_is {W : World} (hT : Tab W) : Calls Tryd.prog 10 #[] W (Rets (SamePost true W)) := by
  have HT := Lib.hid hT
  have hW1 : Fr0 W (W.alloc (.cells (arcCells L25).toArray 56)) := fr_alloc _ _ _
  have HB := Lib.hid (build25_is (c := 2) (arcs_lit (W := W.alloc (.cells (arcCells L25).toArray 56)) (World.alloc_heap_new _ _) (by decide)) (by decide) (n := 2) (by omega) (by decide))
  clear hT
  go_enter Tryd.func10, Tryd.ntmps10
  go_wp2_with (first
    | (go_at_call 14; refine (HB.out).mono ?_; rintro e w1 ⟨v1, rfl, r, p, pt, J, J', rfl, hf1, hR, hG, hGt, hB1, hB2⟩; have HR := Lib.hid hR; have HG := Lib.hid hG; have HGt := Lib.hid hGt; have HB1 := Lib.hid hB1; have HB2 := Lib.hid hB2; clear hR hG hGt hB1 hB2)
    | (go_at_call 7; refine (RuleOf_is 10).mono ?_; rintro e w2 ⟨_, rfl, h⟩; obtain ⟨hf2, rfl⟩ := rule10 h; clear h))
  have hc : ∀ (i : Nat) (v : Value), (#[Value.int .i64 3, .int .i64 4, .int .i64 3] : Array Value)[i]? = some v → (w2.alloc (.cells #[.int .i64 3, .int .i64 4, .int .i64 3] 23)).cell? ⟨w2.heap.size, i, none⟩ = some v := fun i v hv => by rw [World.cell?, World.alloc_heap_new]; exact hv
  have hf3 : Fr0 w1 (w2.alloc (.cells #[.int .i64 3, .int .i64 4, .int .i64 3] 23)) := hf2.trans0 (fr_alloc _ _ _)
  obtain ⟨w3, hw3⟩ : ∃ w3, w2.alloc (.cells #[.int .i64 3, .int .i64 4, .int .i64 3] 23) = w3 := ⟨_, rfl⟩
  rw [hw3] at hc hf3 ⊢
  clear hw3
  have hF3 : Fr0 W w3 := (hW1.trans0 hf1).trans0 hf3
  have HKS := Lib.hid (show ∀ w', Fr0 w3 w' → (Fr0 w3 w' ∧ w'.cell? ⟨w2.heap.size, 0, none⟩ = some (.int .i64 3) ∧ w'.cell? ⟨w2.heap.size, 1, none⟩ = some (.int .i64 4) ∧ w'.cell? ⟨w2.heap.size, 2, none⟩ = some (.int .i64 3)) from fun w' f => ⟨f, f.cell (hc 0 _ rfl) (fun x => x), f.cell (hc 1 _ rfl) (fun x => x), f.cell (hc 2 _ rfl) (fun x => x)⟩)
  have KF := Lib.hid (fun w' (f : Fr0 w3 w') => Full_is 2 w' (HT.out.fr (hF3.trans0 f) (fun x => x)) (by omega))
  have KL := Lib.hid (fun w' (f : Fr0 w3 w') g a (hI : IsBits w' g a 2 (fun k => decide (k < 2))) => least25_is (HR.out.fr0 (hf3.trans0 f)) (HG.out.fr0 (hf3.trans0 f)) (HGt.out.fr0 (hf3.trans0 f)) HB1.out HB2.out (HT.out.fr (hF3.trans0 f) (fun x => x)) hI)
  have KD := Lib.hid (fun w' (f : Fr0 w3 w') g a (hI : IsBits w' g a 2 (fun k => decide (k < 2))) => dist25_is (HR.out.fr0 (hf3.trans0 f)) (HG.out.fr0 (hf3.trans0 f)) (HGt.out.fr0 (hf3.trans0 f)) HB1.out HB2.out (HT.out.fr (hF3.trans0 f) (fun x => x)) hI)
  clear hc HB
  go_region_held_law (fun w' => Fr0 w3 w' ∧ w'.cell? ⟨w2.heap.size, 0, none⟩ = some (.int .i64 3) ∧ w'.cell? ⟨w2.heap.size, 1, none⟩ = some (.int .i64 4) ∧ w'.cell? ⟨w2.heap.size, 2, none⟩ = some (.int .i64 3))
    ((refine HKS.out _ ?_; first | exact fr_drew _ _ | assumption | exact And.left (by assumption)))
    (first
      | (go_at_call 23; refine (KF.out _ (And.left (by assumption))).mono ?_; rintro e w4 ⟨_, rfl, gF, aF, rfl, _, _, hff, hIF⟩; have hF4 := Fr.trans0 (And.left (by assumption)) hff)
      | (go_at_call 18; refine (KL.out _ (And.left (by assumption)) _ _ hIF).mono ?_; rintro e w5 ⟨_, rfl, A5, c5, rfl, hf5, hI5⟩; have hF5 := Fr.trans0 (And.left (by assumption)) hf5; have hF5d := hF5.trans0 (fr_drew _ _)))
  go_wp2_with fail
  go_region_held_law (fun w' => Fr0 w3 w' ∧ w'.cell? ⟨w2.heap.size, 0, none⟩ = some (.int .i64 3) ∧ w'.cell? ⟨w2.heap.size, 1, none⟩ = some (.int .i64 4) ∧ w'.cell? ⟨w2.heap.size, 2, none⟩ = some (.int .i64 3))
    ((refine HKS.out _ ?_; first | exact hF5d | assumption | exact And.left (by assumption)))
    (first
      | (go_at_call 23; refine (KF.out _ (And.left (by assumption))).mono ?_; rintro e w6 ⟨_, rfl, gD, aD, rfl, _, _, hf6, hID⟩; have hF6 := Fr.trans0 (And.left (by assumption)) hf6)
      | (go_at_call 13; refine (KD.out _ (And.left (by assumption)) _ _ hID).mono ?_; rintro e w7 ⟨_, rfl, A7, c7, B7, d7, rfl, hf7, hIa, hIb⟩; have hF7 := Fr.trans0 (And.left (by assumption)) hf7; have h57 : Fr0 w5 w7 := ((fr_drew _ _).trans0 hf6).trans0 hf7))
  obtain ⟨_, q0, q1, q2⟩ := HKS.out _ hF7
  go_wp2_with (first
    | (go_at_call 17; refine (Same_is (c := d7) (d := 2) (xs := [0, -1]) (ys := [0, -1]) (hIb.fr0 (h79.trans0 (fr_alloc _ _ _))) (ints_lit (World.alloc_heap_new _ _) (by decide))).mono ?_; rintro e w10 ⟨_, rfl, rfl, hf10⟩; rw [show decide (([0, -1] : List Int) = [0, -1]) = true by decide]; have h710 : Fr0 w7 w10 := h79.trans0 ((fr_alloc _ w9 (.cells #[.int .i64 0, .int .i64 (-1)] 3)).trans0 hf10))
    | (go_at_call 17; refine (Same_is (c := c7) (d := 2) (xs := [2, 1]) (ys := [2, 1]) (hIa.fr0 (h78.trans0 (fr_alloc _ _ _))) (ints_lit (World.alloc_heap_new _ _) (by decide))).mono ?_; rintro e w9 ⟨_, rfl, rfl, hf9⟩; rw [show decide (([2, 1] : List Int) = [2, 1]) = true by decide]; have h79 : Fr0 w7 w9 := h78.trans0 ((fr_alloc _ w8 (.cells #[.int .i64 2, .int .i64 1] 3)).trans0 hf9))
    | (go_at_call 17; refine (Same_is (c := c5) (d := 2) (xs := [0, 1]) (ys := [0, 1]) (hI5.fr0 (h57.trans0 (fr_alloc _ _ _))) (ints_lit (World.alloc_heap_new _ _) (by decide))).mono ?_; rintro e w8 ⟨_, rfl, rfl, hf8⟩; rw [show decide (([0, 1] : List Int) = [0, 1]) = true by decide]; have h78 : Fr0 w7 w8 := (fr_alloc _ w7 (.cells #[.int .i64 0, .int .i64 1] 3)).trans0 hf8))
  go_ret
  exact ⟨_, rfl, rfl, (hF3.trans0 hF7).trans0 h710⟩
end Go.Proofs.YtdcjfpjpboafnaaDoor
namespace Go.Proofs.YtdcjfpjpboafnaaDoor
set_option linter.all false
open Go.RowKit
set_option maxRecDepth 100000

set_option maxHeartbeats 2000000 in
theorem ruleL_is {W : World} (a b c : Int) : Calls Tryd.prog 9 #[.agg #[.int .i64 a, .int .i64 b, .int .i64 c]] W (Rets fun v w' => v = .agg #[.int .i64 a, .int .i64 b, .int .i64 c] ∧ Fr0 W w') := by
  have z := three_cells25 W (.int .i64 a) (.int .i64 b) (.int .i64 c) 26
  have f : Fr0 (W.alloc (.cells #[.int .i64 a, .int .i64 b, .int .i64 c] 26)) ((W.alloc (.cells #[.int .i64 a, .int .i64 b, .int .i64 c] 26)).alloc (.cells #[.int .i64 0, .int .i64 0, .int .i64 0] 23)) := fr_alloc _ _ _
  have y0 := f.cell z.1 (fun x => x)
  have y1 := f.cell z.2.1 (fun x => x)
  have y2 := f.cell z.2.2 (fun x => x)
  clear z f
  go_enter Tryd.func9, Tryd.ntmps9
  go_wp2_with fail
  (try simp only [Exit.inBlock, Exit.then])
  refine bodyPost_ret (v := .agg #[.int .i64 a, .int .i64 b, .int .i64 c]) ?_ rfl ?_
  · simp only [results, show Tryd.f9.results = #[ResultVar.cell 2 23] from rfl]
    go_simp
  · exact ⟨_, rfl, rfl, (fr_alloc _ _ _).alloc _⟩
end Go.Proofs.YtdcjfpjpboafnaaDoor
