/- The search of distances: how far a spot is, if that is not known yet. -/
import Derived.Test.YtdcjfpjpboafnaaDoorDeqR
import Derived.Test.YtdcjfpjpboafnaaDoorReachA
namespace Go.Proofs.YtdcjfpjpboafnaaDoor
set_option linter.all false
open Go.RowKit
set_option maxRecDepth 100000

def sptN (x : Nat × Bool) : Int × Bool := ((x.1 : Int), x.2)
/-- How many spots are known. -/
def kntF (n : Nat) (far : Nat → Bool → Option Nat) : Nat := (elems n (fun v => (far v false).isSome)).length + (elems n (fun v => (far v true).isSome)).length
theorem kntF_le (n : Nat) (far : Nat → Bool → Option Nat) : kntF n far ≤ 2 * n := by
  have := elems_len n (fun v => (far v false).isSome)
  have := elems_len n (fun v => (far v true).isSome)
  unfold kntF; omega
theorem kntF_put {n v m : Nat} {b : Bool} {far : Nat → Bool → Option Nat} (hv : v < n) (hno : far v b = none) : kntF n (putF far v b m) = kntF n far + 1 := by
  unfold kntF elems
  cases b with
  | false =>
    have h1 := filter_one (p := fun v => (far v false).isSome) (q := fun u => (putF far v false m u false).isSome) (v := v) (fun k => by unfold putF; by_cases e : k = v <;> simp [e]) (by simp [hno]) List.nodup_range (List.mem_range.2 hv)
    have h2 : (fun u => (putF far v false m u true).isSome) = (fun u => (far u true).isSome) := by funext u; unfold putF; simp
    rw [h1, h2]; omega
  | true =>
    have h1 := filter_one (p := fun v => (far v true).isSome) (q := fun u => (putF far v true m u true).isSome) (v := v) (fun k => by unfold putF; by_cases e : k = v <;> simp [e]) (by simp [hno]) List.nodup_range (List.mem_range.2 hv)
    have h2 : (fun u => (putF far v true m u false).isSome) = (fun u => (far u false).isSome) := by funext u; unfold putF; simp
    rw [h1, h2]; omega
abbrev finPre (r : Option Addr) (wg : Nat) (a b c : Int) (mb : Nat) : List Value := [.pointer r, .pointer (some ⟨wg, 0, none⟩), .int .i64 a, .int .i64 b, .int .i64 c, .map (some mb)]
/-- The finder, and what it knows. -/
structure FinI (W : World) (B q : Nat) (r : Option Addr) (wg wa n : Nat) (pw : Nat → Bool) (a b c : Int) (mb : Nat) (far : Nat → Bool → Option Nat) (l : List (Nat × Bool)) : Prop where
  deq : ∃ A N top vs, IsDqS W B q 84 (finPre r wg a b c mb) [] A N top vs (l.map sptN) ∧ N ≤ 10000
  wbits : IsBits W wg wa n pw
  map : MapIs Tryd.prog 63 sptL sptO W mb (kntF n far) (farM far)
  base : B ≤ q ∧ B ≤ mb ∧ B ≤ W.heap.size ∧ 0 < B
  len : l.length ≤ kntF n far
/-- The blocks that the search writes. -/
def FinO (q mb : Nat) (W : World) (k : Nat) : Prop := k = q ∨ k = mb ∨ ∃ N, W.cell? ⟨q, 6, none⟩ = some (.slice (some ⟨k, 0, none⟩) N N)
section
variable {W W' : World} {B q wg wa n mb : Nat} {r : Option Addr} {pw : Nat → Bool} {a b c : Int} {far : Nat → Bool → Option Nat} {l : List (Nat × Bool)}
theorem FinI.blk (h : FinI W B q r wg wa n pw a b c mb far l) : ∃ ring top m, FinBlk W q r (some ⟨wg, 0, none⟩) a b c mb ring top m := by
  obtain ⟨A, N, top, vs, hD, _⟩ := h.deq
  exact ⟨_, _, _, hD.blk⟩
theorem FinI.grow {C : Nat} (h : FinI W B q r wg wa n pw a b c mb far l) (f : Grow C W W') : FinI W' B q r wg wa n pw a b c mb far l :=
  ⟨by obtain ⟨A, N, top, vs, hD, hN⟩ := h.deq; exact ⟨A, N, top, vs, hD.grow f, hN⟩, h.wbits.grow f, h.map.grow f, ⟨h.base.1, h.base.2.1, Nat.le_trans h.base.2.2.1 f.size, h.base.2.2.2⟩, h.len⟩
theorem FinI.fr0 (h : FinI W B q r wg wa n pw a b c mb far l) (f : Fr0 W W') : FinI W' B q r wg wa n pw a b c mb far l := h.grow (Fr0.grow f 0)
theorem IsDqS.types {ty N top : Nat} {pre post : List Value} {A : Option Addr} {vs l : List (Int × Bool)} (h : IsDqS W B q ty pre post A N top vs l) {k t : Nat} {cs : Array Value} {fz : Nat × Nat} (hs : DqSO q A k) (hk : W.heap[k]? = some (.cells cs t fz)) : t = ty ∨ t = 63 := by
  rcases hs with rfl | e
  · have := h.blk
    unfold DqBlk at this
    rw [this] at hk; injection hk with hk; injection hk with _ hk _; exact .inl hk.symm
  · rcases h.ring with ⟨e2, _⟩ | ⟨rb2, e2, hB, _, hr, _⟩
    · rw [e2] at e; cases e
    · rw [e2] at e
      cases e
      unfold SptRow at hr
      rw [hr] at hk; injection hk with hk; injection hk with _ hk _; exact .inr hk.symm
theorem IsDqS.cells {ty N top : Nat} {pre post : List Value} {A : Option Addr} {vs l : List (Int × Bool)} (h : IsDqS W B q ty pre post A N top vs l) {k : Nat} (hs : DqSO q A k) : ∃ cs t fz, W.heap[k]? = some (.cells cs t fz) := by
  rcases hs with rfl | e
  · exact ⟨_, _, _, h.blk⟩
  · rcases h.ring with ⟨e2, _⟩ | ⟨rb2, e2, hB, _, hr, _⟩
    · rw [e2] at e; cases e
    · rw [e2] at e
      cases e
      exact ⟨_, _, _, hr⟩
theorem FinI.types (h : FinI W B q r wg wa n pw a b c mb far l) {k t : Nat} {cs : Array Value} {fz : Nat × Nat} (hs : FinO q mb W k) (hk : W.heap[k]? = some (.cells cs t fz)) : t = 84 ∨ t = 63 := by
  obtain ⟨A, N, top, vs, hD, _⟩ := h.deq
  rcases hs with e | e | ⟨N', e⟩
  · exact hD.types (.inl e) hk
  · exact absurd e (h.map.ne_cells hk)
  · have := hD.blk.c0
    rw [show (finPre r wg a b c mb).length = 6 from rfl, e] at this
    injection this with this
    injection this with this _ _
    exact hD.types (.inr this.symm) hk
theorem FinI.low (h : FinI W B q r wg wa n pw a b c mb far l) {j : Nat} (hj : j < B) : ¬ FinO q mb W j := by
  obtain ⟨b1, b2, _, _⟩ := h.base
  obtain ⟨A, N, top, vs, hD, _⟩ := h.deq
  rintro (e | e | ⟨N', e⟩)
  · omega
  · omega
  · have := hD.blk.c0
    rw [show (finPre r wg a b c mb).length = 6 from rfl, e] at this
    injection this with this
    injection this with this _ _
    have := (hD.ring_lt this.symm).1
    omega
theorem FinI.O_lt (h : FinI W B q r wg wa n pw a b c mb far l) {j : Nat} (hj : FinO q mb W j) : j < W.heap.size := by
  obtain ⟨A, N, top, vs, hD, _⟩ := h.deq
  rcases hj with e | e | ⟨N', e⟩
  · rw [e]; exact hD.blk.lt
  · rw [e]; exact h.map.lt
  · have := hD.blk.c0
    rw [show (finPre r wg a b c mb).length = 6 from rfl, e] at this
    injection this with this
    injection this with this _ _
    exact (hD.ring_lt this.symm).2
theorem FinI.O_grow {C : Nat} (h : FinI W B q r wg wa n pw a b c mb far l) (f : Grow C W W') {j : Nat} (hj : FinO q mb W' j) : FinO q mb W j := by
  obtain ⟨A, N, top, vs, hD, _⟩ := h.deq
  rcases hj with e | e | ⟨N', e⟩
  · exact .inl e
  · exact .inr (.inl e)
  · have := (hD.grow f).blk.c0
    rw [show (finPre r wg a b c mb).length = 6 from rfl, e] at this
    injection this with this
    injection this with this _ _
    refine .inr (.inr ⟨N, ?_⟩)
    have h0 := hD.blk.c0
    rw [show (finPre r wg a b c mb).length = 6 from rfl, ← this] at h0
    exact h0
end
/-- A spot that is not known yet, within. -/
def freshF (pw : Nat → Bool) (far : Nat → Bool → Option Nat) (v : Int) (d : Bool) : Bool := inW pw v && (far v.toNat d).isNone
def FPutPost (W : World) (B q : Nat) (r : Option Addr) (wg wa n : Nat) (pw : Nat → Bool) (a b c : Int) (mb : Nat) (far : Nat → Bool → Option Nat) (l : List (Nat × Bool)) (v : Value) (w' : World) : Prop :=
  v = .tuple #[] ∧ FinI w' B q r wg wa n pw a b c mb far l ∧ Fr (FinO q mb W) W w' ∧ ∀ k, FinO q mb w' k → FinO q mb W k ∨ W.heap.size ≤ k
theorem farM_no {far : Nat → Bool → Option Nat} {v : Int} {d : Bool} : farM far (v, d) = if 0 ≤ v then (far v.toNat d).map (fun k : Nat => .int .i64 (k : Int)) else none := rfl
theorem farM_put {far : Nat → Bool → Option Nat} {v : Int} (hv : 0 ≤ v) (d : Bool) (m : Nat) (x : Int × Bool) : upd (farM far) (v, d) (some (.int .i64 (m : Int))) x = farM (putF far v.toNat d m) x := by
  unfold upd farM putF
  by_cases e : x = (v, d)
  · subst e; simp [hv]
  · rw [if_neg e]
    by_cases h0 : 0 ≤ x.1
    · rw [if_pos h0, if_pos h0]
      by_cases e2 : x.1.toNat = v.toNat ∧ x.2 = d
      · exact absurd (Prod.ext (by omega) e2.2) e
      · rw [if_neg e2]
    · rw [if_neg h0, if_neg h0]
set_option maxHeartbeats 4000000 in
theorem FPut_is {W : World} {B q wg wa n mb : Nat} {r : Option Addr} {pw : Nat → Bool} {a b c : Int} {far : Nat → Bool → Option Nat} {l : List (Nat × Bool)} (h : FinI W B q r wg wa n pw a b c mb far l) (hpw : ∀ u, pw u = true → u < n) (hn : n ≤ 1000)
    {v : Int} (hv : (Lit.int .i64 v).wf = true) (d : Bool) (m : Nat) :
    Calls Tryd.prog 35 #[.pointer (some ⟨q, 0, none⟩), .agg #[.int .i64 v, .bool d], .int .i64 (m : Int)] W
      (Rets (FPutPost W B q r wg wa n pw a b c mb (if freshF pw far v d then putF far v.toNat d m else far) (if freshF pw far v d then l ++ [(v.toNat, d)] else l))) := by
  have hl : l.length ≤ 2000 := by have := h.len; have := kntF_le n far; omega
  obtain ⟨ring, top, mm, hb⟩ := h.blk
  obtain ⟨w0, hw0⟩ : ∃ w0, W.alloc (.cells #[.int .i64 v, .bool d] 63) = w0 := ⟨_, rfl⟩
  have hf0 : Fr0 W w0 := hw0 ▸ fr_alloc _ _ _
  have hF : Fr0 W w0.drew := hf0.drew
  have c5 := (hb.fr0 hF).c5
  have c5' := (hb.fr0 hf0).c5
  have hx0 := hw0 ▸ two_spt W (.int .i64 v) (.bool d)
  have HX0 := Lib.hid hx0
  obtain ⟨x0, x1⟩ := hx0
  have hlk := (h.map.fr0 hF).look_ok sptK Tryd.underlying80 (zero_intF _) (x := (v, d)) ⟨hv, trivial⟩
  simp only [sptE] at hlk
  have HW := Lib.hid (fun w' (f : Fr0 W w') => Has_is (h.wbits.fr0 f) v)
  have H := Lib.hid h
  have HB := Lib.hid hb
  by_cases hkn : farM far (v, d) = none
  · have hkn2 : freshF pw far v d = inW pw v := by
      unfold freshF
      rw [farM_no] at hkn
      by_cases h0 : 0 ≤ v
      · rw [if_pos h0, Option.map_eq_none_iff] at hkn
        simp [hkn]
      · simp [inW, h0]
    rw [hkn] at hlk
    simp only [Option.getD_none, Option.isSome_none] at hlk
    rw [hkn2]
    have hin : inW pw v = (decide (0 ≤ v) && pw v.toNat) := rfl
    cases hx : inW pw v with
    | false =>
      rw [hx] at hin
      rw [← hin] at HW
      have HK := Lib.hid hkn
      simp only [Bool.false_eq_true, if_false]
      have c1 := (hb.fr0 hf0).c1
      clear h hb hx hkn hkn2 hin
      go_enter Tryd.func35, Tryd.ntmps35
      go_wp2_with fail
      go_region
      have c1 := (HB.out.fr0 hF).c1
      have x0 := (fr_drew (fun _ => False) w0).cell x0 (fun x => x)
      go_wp2_with fail
      go_quiet ((go_at_call 51; refine (HW.out _ (hf0.drewN _)).mono ?_; rintro e w2 ⟨rfl, rfl⟩; exact ⟨rfl, _, rfl⟩))
      go_wp2_with fail
      go_end0
      exact ⟨_, rfl, rfl, H.out.fr0 (hF.drewN _), (hF.drewN _).mono (fun _ _ x => x.elim), fun k hk => .inl (H.out.O_grow (Fr0.grow (hF.drewN _) 0) hk)⟩
    | true =>
      rw [hx] at hin
      rw [← hin] at HW
      have HK := Lib.hid hkn
      simp only [if_true]
      have c1 := (hb.fr0 hf0).c1
      have hv0 : 0 ≤ v := by
        simp only [inW, Bool.and_eq_true, decide_eq_true_eq] at hx
        exact hx.1
      have hvn : v.toNat < n := hpw _ (by simp only [inW, Bool.and_eq_true] at hx; exact hx.2)
      have hno : far v.toNat d = none := by rw [farM_no, if_pos hv0, Option.map_eq_none_iff] at hkn; exact hkn
      clear h hb hx hkn hkn2 hin
      go_enter Tryd.func35, Tryd.ntmps35
      go_wp2_with fail
      go_region
      have c1 := (HB.out.fr0 hF).c1
      have x0 := (fr_drew (fun _ => False) w0).cell x0 (fun x => x)
      go_wp2_with fail
      go_quiet ((go_at_call 51; refine (HW.out _ (hf0.drewN _)).mono ?_; rintro e w2 ⟨rfl, rfl⟩; exact ⟨rfl, _, rfl⟩))
      obtain ⟨w1, hw1⟩ : ∃ w1, w1 = w0.drew.drewN nq := ⟨_, rfl⟩
      rw [← hw1]
      have hF1 : Fr0 W w1 := by rw [hw1]; exact hF.drewN _
      have hf1 : Fr0 w0 w1 := by rw [hw1]; exact (fr_drew _ _).drewN _
      clear hw1 c5 c5' c1 hlk HW
      obtain ⟨w3, hrun, hm3, hf3⟩ := (H.out.map.fr0 hF1.drew).store sptK Tryd.underlying80 (by have := kntF_le n far; unfold maxLen; omega) (x := (v, d)) ⟨hv, trivial⟩ (.int .i64 (m : Int))
      obtain ⟨w3', hrun', hm3', hf3'⟩ := (H.out.map.fr0 hF1).store sptK Tryd.underlying80 (by have := kntF_le n far; unfold maxLen; omega) (x := (v, d)) ⟨hv, trivial⟩ (.int .i64 (m : Int))
      simp only [sptE] at hrun hrun'
      have c5 := (HB.out.fr0 hF1.drew).c5
      have c5' := (HB.out.fr0 hF1).c5
      have HY0 := Lib.hid (hf1.heap (hw0 ▸ World.alloc_heap_new W (.cells #[.int .i64 v, .bool d] 63)) (fun x => x))
      have y0 := hf1.cell HX0.out.1 (fun x => x)
      have y1 := hf1.cell HX0.out.2 (fun x => x)
      have z0 := hf1.drew.cell HX0.out.1 (fun x => x)
      have z1 := hf1.drew.cell HX0.out.2 (fun x => x)
      go_wp2_with fail
      go_region
      obtain ⟨A, N, top2, vs, hD, hN⟩ := H.out.deq
      have hqm : ¬ q = mb := H.out.map.ne_cells hD.blk
      have hrm : ∀ rb, A = some ⟨rb, 0, none⟩ → ¬ rb = mb := fun rb e => by
        obtain ⟨cs, t, fz, hc⟩ := hD.cells (.inr e)
        exact H.out.map.ne_cells hc
      have hgm : ∀ {k t : Nat} {cs : Array Value} {fz : Nat × Nat}, W.heap[k]? = some (.cells cs t fz) → ¬ k = mb := fun hc => H.out.map.ne_cells hc
      have HC0 := Lib.hid hD.blk.c0
      have hD3 := (hD.fr0 hF1.drew).fr hf3 hqm hrm
      have hW3 : Fr (fun k => k = mb) W w3 := (hF1.drew.mono (fun _ _ x => x.elim)).trans hf3 (fun _ _ x => x)
      have hs3 := hW3.size
      have hmb := H.out.map.lt
      have hbase := H.out.base
      have HP := Lib.hid (fun w' (f : Fr0 w3 w') => DPushS_is (hD3.fr0 f) (by have := f.size; omega) (by omega) (v, d))
      rw [show (finPre r wg a b c mb).length = 6 from rfl] at HP
      have hwz : W.heap.size < w1.heap.size := by have := hF1.size; have := heap_lt (HY0.out); omega
      have x0 := hf3.drew.cell z0 (by simp only; omega)
      have x1 := hf3.drew.cell z1 (by simp only; omega)
      have HM3 := Lib.hid hm3
      have HD3 := Lib.hid hD3
      have HF3 := Lib.hid hf3
      clear hrun hrun' hm3 hm3' hf3' c5 c5' y0 y1 z0 z1 hD hD3
      go_wp2_with fail
      refine wp_region_still_tail 4 (by kernel_rfl) (by kernel_rfl) ?_
      simp only [List.take_succ_cons, List.take_zero, List.drop_succ_cons, List.drop_zero]
      change wpStill _ _ (World.drew _) _ _ _
      repeat still_step
      refine wpStill_nil ?_
      change wpList _ _ _ _ _ (World.drew _)
      go_wp2_with (go_at_call 52; refine (HP.out _ (fr_drew _ _)).mono ?_; rintro e w4 ⟨_, rfl, rfl, hf4, A4, N4, t4, vs4, hD4, hN4, hA4⟩)
      go_end0
      have hn1 : ∀ j, DqSO q A j → FinO q mb W j := fun j hs => by
        rcases hs with e | e
        · exact .inl e
        · exact .inr (.inr ⟨N, by rw [← e]; exact HC0.out⟩)
      have htab : ¬ DqSO q A 0 := by
        rintro (e | e)
        · omega
        · have := (HD3.out.ring_lt e).1; omega
      have htm : 0 ≠ mb := by omega
      have hw3' := H.out.wbits.frT hW3 htm (fun k cs t fz hs hk => absurd hs (hgm hk))
      have hw4' := (hw3'.fr0 (fr_drew _ _)).frT hf4 htab (fun k cs t fz hs hk => by rcases HD3.out.types hs hk with rfl | rfl <;> decide)
      have hvN : ((v.toNat : Nat) : Int) = v := Int.toNat_of_nonneg hv0
      refine ⟨_, rfl, rfl, ⟨⟨A4, N4, t4, vs4, ?_, ?_⟩, hw4', ?_, ⟨hbase.1, hbase.2.1, by have := hf4.size; simp at this; omega, hbase.2.2.2⟩, by rw [kntF_put hvn hno, List.length_append, List.length_singleton]; have := H.out.len; omega⟩, (hW3.mono (fun k _ e => .inr (.inl e))).drew.trans hf4 (fun j hj hs => hn1 j hs), ?_⟩
      · have e : (l ++ [(v.toNat, d)]).map sptN = l.map sptN ++ [(v, d)] := by simp [sptN, hvN]
        rw [e]; exact hD4
      · rw [List.length_append, List.length_map, List.length_singleton] at hN4
        omega
      · rw [kntF_put hvn hno]
        refine (((HM3.out.congr (fun x _ => farM_put hv0 d m x)).fr0 (fr_drew _ _)).fr hf4 ?_)
        rintro (e | e)
        · exact hqm e.symm
        · exact hrm _ e rfl
      · rintro k (e | e | ⟨N', e⟩)
        · exact .inl (.inl e)
        · exact .inl (.inr (.inl e))
        · by_cases hk : W.heap.size ≤ k
          · exact .inr hk
          · left
            right
            right
            have h1 := hD4.blk.c0
            rw [show (finPre r wg a b c mb).length = 6 from rfl, e] at h1
            have e2 := Option.some.inj h1
            injection e2 with e2 _ _
            rcases hA4 with e3 | ⟨k3, e3, hk3⟩
            · refine ⟨N, ?_⟩
              rw [e2, e3]
              exact HC0.out
            · rw [e3] at e2
              cases e2
              simp at hk3
              omega
  · have hkn2 : freshF pw far v d = false := by
      unfold freshF
      rw [farM_no] at hkn
      by_cases h0 : 0 ≤ v
      · rw [if_pos h0, Option.map_eq_none_iff] at hkn
        cases hq : far v.toNat d with
        | none => exact absurd hq hkn
        | some k => simp
      · rw [if_neg h0] at hkn; exact absurd rfl hkn
    obtain ⟨k, hk⟩ : ∃ k, farM far (v, d) = some k := Option.ne_none_iff_exists'.1 hkn
    rw [hk] at hlk
    simp only [Option.getD_some, Option.isSome_some] at hlk
    rw [hkn2]
    simp only [Bool.false_eq_true, if_false]
    clear h hb hkn hkn2 hk
    go_enter Tryd.func35, Tryd.ntmps35
    go_wp2_with fail
    go_region
    go_wp2_with fail
    go_quiet (fail)
    go_wp2_with fail
    go_end0
    exact ⟨_, rfl, rfl, H.out.fr0 (hF.drewN _), (hF.drewN _).mono (fun _ _ x => x.elim), fun k hk => .inl (H.out.O_grow (Fr0.grow (hF.drewN _) 0) hk)⟩
end Go.Proofs.YtdcjfpjpboafnaaDoor
