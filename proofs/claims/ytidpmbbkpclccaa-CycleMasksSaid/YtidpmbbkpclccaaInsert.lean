/- The library's stable sort, at arcs: insertion. -/
import Derived.Test.YtidpmbbkpclccaaSwap
namespace Go.Proofs.Ytidpmbbkpclccaa
set_option linter.all false
open Go.RowKit
set_option maxRecDepth 100000

/-! ### The order of arcs -/
def leA (a b : ArcI) : Prop := a.f < b.f ∨ (a.f = b.f ∧ a.t ≤ b.t)
theorem standsI_lt (a b : ArcI) : standsI a.f a.t b.f b.t < 0 ↔ ¬ leA b a := by
  unfold standsI leA orI cmpI
  by_cases h1 : a.f < b.f
  · simp [h1] <;> omega
  · by_cases h2 : b.f < a.f
    · simp [h1, h2]
    · have e : a.f = b.f := by omega
      simp only [h1, h2, if_false, if_true]
      by_cases h3 : a.t < b.t
      · simp [h3, e] <;> omega
      · by_cases h4 : b.t < a.t
        · simp [h3, h4, e] <;> omega
        · simp [h3, h4, e] <;> omega
theorem standsI_zero (a b : ArcI) : standsI a.f a.t b.f b.t = 0 ↔ a.f = b.f ∧ a.t = b.t := by
  unfold standsI orI cmpI
  by_cases h1 : a.f < b.f
  · simp [h1] <;> omega
  · by_cases h2 : b.f < a.f
    · simp [h1, h2] <;> omega
    · have e : a.f = b.f := by omega
      simp only [h1, h2, if_false, if_true]
      by_cases h3 : a.t < b.t
      · simp [h3, e] <;> omega
      · by_cases h4 : b.t < a.t
        · simp [h3, h4, e] <;> omega
        · simp [h3, h4, e] <;> omega
theorem leA_trans {a b c : ArcI} (h : leA a b) (k : leA b c) : leA a c := by unfold leA at *; omega
theorem leA_total (a b : ArcI) : leA a b ∨ leA b a := by unfold leA; omega
theorem leA_refl (a : ArcI) : leA a a := by unfold leA; omega

/-! ### What sorting a piece keeps -/
/-- cur is arr but for the order within [x, y). -/
structure Shuf (arr cur : List ArcI) (x y : Nat) : Prop where
  perm : cur.Perm arr
  pre : ∀ k, k < x → cur[k]? = arr[k]?
  post : ∀ k, y ≤ k → cur[k]? = arr[k]?
def SortedOn (l : List ArcI) (x y : Nat) : Prop := ∀ p q, x ≤ p → p < q → q < y → leA (l.getD p default) (l.getD q default)
theorem Shuf.refl (l : List ArcI) (x y : Nat) : Shuf l l x y := ⟨List.Perm.refl _, fun _ _ => rfl, fun _ _ => rfl⟩
theorem Shuf.len {arr cur : List ArcI} {x y : Nat} (h : Shuf arr cur x y) : cur.length = arr.length := h.perm.length_eq
theorem Shuf.trans {a b c : List ArcI} {x y x' y' : Nat} (h : Shuf a b x y) (k : Shuf b c x' y') (hx : x ≤ x') (hy : y' ≤ y) : Shuf a c x y :=
  ⟨k.perm.trans h.perm, fun j hj => (k.pre j (by omega)).trans (h.pre j hj), fun j hj => (k.post j (by omega)).trans (h.post j hj)⟩
theorem perm_set_set (l : List ArcI) (p q : Nat) (hp : p < l.length) (hq : q < l.length) : (swp l p q).Perm l := by
  unfold swp
  rw [List.getD_eq_getElem?_getD, List.getD_eq_getElem?_getD, List.getElem?_eq_getElem hp, List.getElem?_eq_getElem hq, Option.getD_some, Option.getD_some]
  exact List.set_set_perm hp hq
theorem Shuf.swp {arr cur : List ArcI} {x y p q : Nat} (h : Shuf arr cur x y) (hp : x ≤ p) (hp' : p < y) (hq : x ≤ q) (hq' : q < y) (hy : y ≤ arr.length) : Shuf arr (swp cur p q) x y := by
  have hl := h.len
  refine ⟨(perm_set_set cur p q (by omega) (by omega)).trans h.perm, fun k hk => ?_, fun k hk => ?_⟩
  · rw [swp_get (by omega) (by omega), if_neg (by omega), if_neg (by omega)]; exact h.pre k hk
  · rw [swp_get (by omega) (by omega), if_neg (by omega), if_neg (by omega)]; exact h.post k hk
theorem getD_of_get {l l' : List ArcI} {k : Nat} (h : l[k]? = l'[k]?) : l.getD k default = l'.getD k default := by simp [List.getD_eq_getElem?_getD, h]
theorem swp_getD {l : List ArcI} {p q : Nat} (hp : p < l.length) (hq : q < l.length) (k : Nat) : (swp l p q).getD k default = if k = q then l.getD p default else if k = p then l.getD q default else l.getD k default := by
  rw [List.getD_eq_getElem?_getD, swp_get hp hq]
  split
  · simp [List.getD_eq_getElem?_getD]
  · split <;> simp [List.getD_eq_getElem?_getD]
theorem swp_comm (l : List ArcI) (p q : Nat) : swp l p q = swp l q p := by
  unfold swp
  by_cases h : p = q
  · subst h; rfl
  · rw [List.set_comm _ _ h]
/-- All pairs in order but those whose later one stands at j. -/
def InsInv (l : List ArcI) (x i j : Nat) : Prop := ∀ p q, x ≤ p → p < q → q ≤ i → q ≠ j → leA (l.getD p default) (l.getD q default)
theorem InsInv.step {l : List ArcI} {x i j : Nat} (h : InsInv l x i j) (hx : x < j) (hj : j ≤ i) (hi : i < l.length) (hlt : ¬ leA (l.getD (j - 1) default) (l.getD j default)) : InsInv (swp l (j - 1) j) x i (j - 1) := by
  intro p q hp hpq hq hne
  rw [swp_getD (by omega) (by omega), swp_getD (by omega) (by omega)]
  by_cases q1 : q = j
  · rw [if_neg (show ¬ p = j by omega), if_pos q1]
    by_cases p1 : p = j - 1
    · rw [if_pos p1]; exact (leA_total _ _).resolve_right hlt
    · rw [if_neg p1]; exact h p (j - 1) hp (by omega) (by omega) (by omega)
  · rw [if_neg q1, if_neg hne]
    by_cases p1 : p = j
    · rw [if_pos p1]; exact h (j - 1) q (by omega) (by omega) hq q1
    · rw [if_neg p1]
      by_cases p2 : p = j - 1
      · rw [if_pos p2]; exact h j q (by omega) (by omega) hq q1
      · rw [if_neg p2]; exact h p q hp hpq hq q1
theorem InsInv.done {l : List ArcI} {x i j : Nat} (h : InsInv l x i j) (hj : j ≤ i) (hxj : x ≤ j) (hd : j = x ∨ leA (l.getD (j - 1) default) (l.getD j default)) : SortedOn l x (i + 1) := by
  intro p q hp hpq hq
  by_cases e : q = j
  · subst e
    rcases hd with hd | hd
    · omega
    · by_cases p1 : p = q - 1
      · rw [p1]; exact hd
      · exact leA_trans (h p (q - 1) hp (by omega) (by omega) (by omega)) hd
  · exact h p q hp hpq (by omega) e

theorem stands_enters : ∀ args w, (callFunc 41 args).run Try.prog w = .ok (.enter 41 args) w := enters_of Try.func41 (by kernel_rfl) rfl
def SortPost (W : World) (b : Nat) (tail : List Value) (arr : List ArcI) (x y : Nat) (v : Value) (w' : World) : Prop :=
  v = .tuple #[] ∧ Fr (fun k => k = b) W w' ∧ ∃ cur, Shuf arr cur x y ∧ SortedOn cur x y ∧ ArrAt w' b cur tail
set_option maxHeartbeats 4000000 in
theorem insertion_is {W : World} {b cap N : Nat} {arr : List ArcI} {tail : List Value} (h : ArrAt W b arr tail) (hN : arr.length = N) (hlen : N ≤ 17592186044416) (xi yi : Int) (x y : Nat) (hxi : xi = x) (hyi : yi = y) (hxy : x ≤ y) (hy : y ≤ N) :
    Calls Try.prog 57 #[.slice (some ⟨b, 0, none⟩) N cap, .int .i64 xi, .int .i64 yi, .func (.func 41) #[] #[]] W (Rets (SortPost W b tail arr x y)) := by
  subst hxi hyi
  have hen := stands_enters
  have HN := Lib.hid hN
  clear hN
  go_enter Try.func57, Try.ntmps57
  go_wp2
  go_loopw [8] (fun vi wr => ∃ (i : Nat) (cur : List ArcI), x < i ∧ i ≤ y + 1 ∧ vi = .int .i64 i ∧ Hid (Shuf arr cur x y) ∧ Hid (SortedOn cur x (min i y)) ∧ ArrAt wr b cur tail ∧ Fr (fun k => k = b) W wr) (fun vi _ => y + 1 - (intOf vi).toNat)
  case atStart => exact ⟨x + 1, arr, by omega, by omega, by go_num, Lib.hid (Shuf.refl _ _ _), Lib.hid (fun p q h1 h2 h3 => by omega), h, Fr.refl _ _⟩
  case round =>
    obtain ⟨i, cur, hi1, hi2, rfl, HS, HO, ha, hf⟩ := hrel
    by_cases hlt : i < y
    · go_wp2
      obtain ⟨wo, rfl⟩ : ∃ wo : World, wo = wr := ⟨_, rfl⟩
      go_loopw [9] (fun vj wr => ∃ (j : Nat) (cur : List ArcI), x ≤ j ∧ j ≤ i ∧ vj = .int .i64 j ∧ Hid (Shuf arr cur x y) ∧ Hid (InsInv cur x i j) ∧ ArrAt wr b cur tail ∧ Fr (fun k => k = b) W wr) (fun vj _ => (intOf vj).toNat)
      case atStart => exact ⟨i, cur, by omega, Nat.le_refl _, rfl, HS, Lib.hid (fun p q h1 h2 h3 h4 => HO.out p q h1 h2 (by omega)), ha, hf⟩
      case round =>
        obtain ⟨j, cur, hj1, hj2, rfl, HS, HI, ha, hf⟩ := hrel
        have hcN : cur.length = N := HS.out.len.trans HN.out
        by_cases hxj : x < j
        · obtain ⟨c1, c2, c3⟩ := ha.arc (j := j) (by omega)
          obtain ⟨d1, d2, d3⟩ := ha.arc (j := j - 1) (by omega)
          have hst := swp_set3 ha (p := j) (q := j - 1) (by omega) (by omega)
          have hdec := standsI_lt (cur.getD j default) (cur.getD (j - 1) default)
          have hstep := fun hh => HI.out.step (j := j) (by omega) hj2 (by omega) hh
          generalize hu : cur.getD j default = u at c1 c2 c3 hst hdec hstep
          generalize hv : cur.getD (j - 1) default = v at d1 d2 d3 hst hdec hstep
          have HU := Lib.hid hu
          have HV := Lib.hid hv
          have HST := Lib.hid hst
          have HSTEP := Lib.hid hstep
          have HDEC := Lib.hid hdec
          clear hu hv hst hstep hdec
          have k1 : (x : Int) < (j : Int) := by omega
          have k2 : (1 : Int) ≤ (j : Int) := by omega
          have k3 : (j : Int) < (N : Int) := by omega
          have k4 : (j : Int) - 1 < (N : Int) := by omega
          have k5 : (0 : Int) ≤ (j : Int) - 1 := by omega
          have ht : ((j : Int) - 1).toNat = j - 1 := by omega
          have HCN := Lib.hid hcN
          clear hcN
          have hw : IntKind.i64.wrap ((j : Int) - 1) = (j : Int) - 1 := by rw [IntKind.wrap_i64]; omega
          go_wp2_with fail
          refine wp_region_still_tail 14 (by kernel_rfl) (by kernel_rfl) ?_
          simp only [List.take_succ_cons, List.take_zero, List.drop_succ_cons, List.drop_zero]
          change wpStill _ _ (World.drew _) _ _ _
          repeat still_step
          refine wpStill_nil ?_
          change wpList _ _ _ _ _ (World.drew _)
          go_wp2_with fail
          refine (stands_is _ _ _ _ _ _ _).mono ?_
          rintro e w2 ⟨_, rfl, rfl, h2⟩
          have h2' : Fr0 wr w2 := Fr.trans (fr_drew _ wr) h2 (fun _ _ x => x)
          have ha2 : ArrAt w2 b cur tail := h2'.heap' ha
          have hdec := HDEC.out
          generalize standsI u.f u.t v.f v.t = c at hdec ⊢
          clear hw
          by_cases hle : leA v u
          · have hc0 : 0 ≤ c := by
              by_cases hh : c < 0
              · exact absurd hle (hdec.1 hh)
              · omega
            have hcb : decide (c < 0) = false := by simp; omega
            clear hdec
            have HLE := Lib.hid hle
            clear hle
            go_wp2
            go_roundw
            case rel =>
              refine ⟨i + 1, cur, by omega, by omega, by go_num, HS, Lib.hid ?_, ha2, hf.trans0 h2'⟩
              have := HI.out.done hj2 hj1 (.inr (by rw [HU.out, HV.out]; exact HLE.out))
              intro p q h1 h2 h3
              exact this p q h1 h2 (by omega)
            case measure => simp [intOf]; omega
          · have hc0 : c < 0 := hdec.2 hle
            have hcb : decide (c < 0) = true := by simp; omega
            clear hdec
            have HLE := Lib.hid hle
            clear hle
            obtain ⟨c1, c2, c3⟩ := ha2.arc (j := j) (by have := HCN.out; omega)
            obtain ⟨d1, d2, d3⟩ := ha2.arc (j := j - 1) (by have := HCN.out; omega)
            have hst := swp_set3 ha2 (p := j) (q := j - 1) (by have := HCN.out; omega) (by have := HCN.out; omega)
            rw [HU.out] at c1 c2 c3 hst
            rw [HV.out] at d1 d2 d3 hst
            have HST := Lib.hid hst
            clear hst
            have f1 := ha2.frozen (j * 3)
            have f2 := ha2.frozen (j * 3 + 1)
            have f3 := ha2.frozen (j * 3 + 2)
            have g1 := ha2.frozen ((j - 1) * 3)
            have g2 := ha2.frozen ((j - 1) * 3 + 1)
            have g3 := ha2.frozen ((j - 1) * 3 + 2)
            obtain ⟨n00, n01, n02, n10, n11, n12, n20, n21, n22⟩ := apart9 (p := j) (q := j - 1) (by omega)
            have hsh := Lib.hid (HS.out.swp (p := j) (q := j - 1) (by omega) (by omega) (by omega) (by omega) (by have := HN.out; omega))
            go_wp2_with fail
            have hw : IntKind.i64.wrap ((j : Int) - 1) = (j : Int) - 1 := by rw [IntKind.wrap_i64]; omega
            go_region
            clear hw
            go_wp2
            go_roundw
            case rel =>
              refine ⟨j - 1, swp cur j (j - 1), by omega, by omega, by rw [show ((j - 1 : Nat) : Int) = (j : Int) - 1 by omega], hsh, Lib.hid ?_, HST.out, (hf.trans0 h2').trans (fr_swp w2 b _ _ v u) (fun _ _ e => e)⟩
              have := HSTEP.out HLE.out
              rwa [swp_comm] at this
            case measure => simp [intOf]; omega
        · have k1 : ¬ ((x : Int) < (j : Int)) := by omega
          have k2 : decide ((x : Int) < (j : Int)) = false := by simp; omega
          have k3 : decide (x < j) = false := by simp; omega
          clear hcN
          go_wp2_with fail
          go_quiet (fail)
          go_wp2
          go_roundw
          case rel =>
            refine ⟨i + 1, cur, by omega, by omega, by go_num, HS, Lib.hid ?_, Fr.heap (fr_drewN (fun _ => False) _ _) ha (fun x => x), hf.drewN _⟩
            have := HI.out.done hj2 hj1 (.inl (by omega))
            intro p q h1 h2 h3
            exact this p q h1 h2 (by omega)
          case measure => simp [intOf]; omega
    · go_wp2
      go_end0
      refine ⟨_, rfl, rfl, hf, cur, HS.out, ?_, ha⟩
      have := HO.out
      rwa [show min i y = y by omega] at this
end Go.Proofs.Ytidpmbbkpclccaa
