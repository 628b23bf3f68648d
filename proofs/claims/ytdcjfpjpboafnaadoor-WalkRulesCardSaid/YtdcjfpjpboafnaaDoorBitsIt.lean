/- The sets of small numbers: going through them, and what is made of that. -/
import Derived.Test.YtdcjfpjpboafnaaDoorBits
namespace Go.Proofs.YtdcjfpjpboafnaaDoor
set_option linter.all false
open Go.RowKit Go.Shelf
attribute [local go_sem] Oper.semAt_some
set_option maxRecDepth 100000

theorem All_is (p : Option Addr) (w : World) : Calls Tryd.prog 50 #[.pointer p] w fun e w' =>
    e = .returned (.func (.func 69) #[] #[.pointer (some ⟨w.heap.size, 0, none⟩)]) ∧ w' = w.alloc (.cells #[.pointer p] 44) := by
  go_enter Tryd.func50, Tryd.ntmps50
  go_wp2
  go_ret
  exact ⟨rfl, rfl⟩

abbrev encN : Nat → Array Value := fun k => #[.int .i64 (k : Int)]

def bitsK (c g a n : Nat) (p : Nat → Bool) (W : World) : Prop := Box W c 44 (.pointer (some ⟨g, 0, none⟩)) ∧ IsBits W g a n p
theorem bitsK.grow {c g a n B : Nat} {p : Nat → Bool} (W W' : World) (h : bitsK c g a n p W) (hG : Grow B W W') : bitsK c g a n p W' := ⟨h.1.grow hG, h.2.grow hG⟩
set_option maxHeartbeats 1000000 in
theorem All1_is (c g a n : Nat) (p : Nat → Bool) : IterSpec Tryd.prog 69 #[.pointer (some ⟨c, 0, none⟩)] encN (elems n p)
    (bitsK c g a n p) := by
  intro l J Jx W hl hJK hJg hJxg h0 hY
  have hsort := Lib.hid (elems_sorted n p)
  obtain ⟨hbox, hb⟩ := hJK _ _ h0
  have hbn : ∀ x, x ∈ elems n p → x < 65536 := fun x hx => by have := (mem_elems.1 hx).1; have := hb.room; omega
  have HBN := Lib.hid hbn
  clear hbn
  obtain ⟨q, hq⟩ : ∃ q, nxtP (elems n p) 0 = q := ⟨_, rfl⟩
  have hz : q = headInt (elems n p) := by rw [← hq, nxtP_zero]
  have HZ := Lib.hid hz
  have HQ := Lib.hid hq
  clear hz hq
  have hbc := hbox.cell
  refine callsIn_of_wp Tryd.func69 rfl trivial ?_
  simp only [Tryd.ntmps69, List.size_toArray, List.length_cons, List.length_nil, Nat.reduceAdd, Nat.reduceSub, Array.replicate_succ, Array.replicate_zero, List.push_toArray, List.append_toArray, List.nil_append, List.cons_append]
  gi_wp2_with (gi_at_call 70; refine (callsIn_wide.2 (Next_is hb 0 (by omega))).mono ?_; rintro e w' ⟨rfl, rfl⟩)
  rw [HQ.out]
  gi_loopw [3] (fun v wr => ∃ (pre rest : List Nat) (r : Int), Hid (elems n p = pre ++ rest) ∧ Hid (r = headInt rest) ∧ v = .int .i64 r ∧ J pre wr ∧ ND (l + 1) W wr)
    (fun v _ => ((70000 - intOf v) % 70001).toNat)
  case atStart => exact ⟨[], _, _, Lib.hid rfl, HZ, rfl, h0, ND.refl _ _⟩
  case round =>
    obtain ⟨pre, rest, r, HX, HR, rfl, hJs, hnd⟩ := hrel
    obtain ⟨hbox, hb⟩ := hJK _ _ hJs
    have hbc := hbox.cell
    cases rest with
    | nil =>
      have hr : r < 0 := by rw [HR.out]; decide
      gi_wp2
      go_end0
      exact ⟨⟨_, rfl⟩, hnd, .inl (by rw [HX.out, List.append_nil]; exact hJs)⟩
    | cons x rest =>
      have hr0 : 0 ≤ r := by rw [HR.out]; simp [headInt]
      have hr1 : r = (x : Int) := HR.out
      have HR1 := Lib.hid hr1
      have hr2 : r < 65536 := by rw [hr1]; have := HBN.out x (by rw [HX.out]; simp); omega
      obtain ⟨fn, tmps, assign, body, hy, hR⟩ := hY pre x wr hJs ⟨rest, by rw [HX.out]; simp⟩
      have hy' : (Instr.yield l #[.int .i64 r]).run Tryd.prog wr = .ok (.round l fn tmps assign body) wr := by rw [hr1]; exact hy
      clear hy hr1
      gi_wp2
      refine hR.mono ?_
      rintro e W3 ⟨hnd3, (⟨rfl, hJ3⟩ | ⟨rfl, hJx3⟩)⟩
      · obtain ⟨hbox3, hb3⟩ := hJK _ _ hJ3
        have hbc3 := hbox3.cell
        obtain ⟨q', hq'⟩ : ∃ q', nxtP (elems n p) (r + 1) = q' := ⟨_, rfl⟩
        have HQ' := Lib.hid hq'
        clear hq'
        gi_wp2_with (gi_at_call 70; refine (callsIn_wide.2 (Next_is hb3 (r + 1) (by omega))).mono ?_; rintro e w' ⟨rfl, rfl⟩)
        rw [HQ'.out]
        go_roundw
        case rel => exact ⟨pre ++ [x], rest, _, Lib.hid (by rw [HX.out]; simp), Lib.hid (by rw [← HQ'.out, HR1.out]; exact nxtP_succ hsort.out HX.out), rfl, hJ3, hnd.trans hnd3⟩
        case measure =>
          have h1 := HQ'.out
          rw [HR1.out, nxtP_succ hsort.out HX.out] at h1
          cases rest with
          | nil =>
            simp only [headInt] at h1
            have h5 := HR1.out
            simp only [intOf]
            omega
          | cons y ys =>
            simp only [headInt] at h1
            have h3 := hsort.out
            rw [HX.out, List.pairwise_append, List.pairwise_cons] at h3
            have h4 := h3.2.1.1 y (by simp)
            have h5 := HR1.out
            have h6 := HBN.out y (by rw [HX.out]; simp)
            simp only [intOf]
            omega
      · gi_wp2
        refine bodyPost_ret (results_none rfl _ _ _) rfl ?_
        exact ⟨⟨_, rfl⟩, hnd.trans hnd3, .inr ⟨pre ++ [x], ⟨rest, by rw [HX.out]; simp⟩, hJx3⟩⟩

/-- The same of the set that is not there. -/
theorem All1_nil (c : Nat) : IterSpec Tryd.prog 69 #[.pointer (some ⟨c, 0, none⟩)] encN [] (fun W => Box W c 44 (.pointer none)) := by
  intro l J Jx W hl hJK hJg hJxg h0 hY
  have hbc := (hJK _ _ h0).cell
  refine callsIn_of_wp Tryd.func69 rfl trivial ?_
  simp only [Tryd.ntmps69, List.size_toArray, List.length_cons, List.length_nil, Nat.reduceAdd, Nat.reduceSub, Array.replicate_succ, Array.replicate_zero, List.push_toArray, List.append_toArray, List.nil_append, List.cons_append]
  gi_wp2_with (gi_at_call 70; refine (callsIn_wide.2 (Next_nil 0)).mono ?_; rintro e w' ⟨rfl, rfl⟩)
  refine wpIn_loop_once ?_
  gi_wp2
  go_end0
  exact ⟨⟨_, rfl⟩, ND.refl _ _, .inl h0⟩

/-! ### List -/
/-- Between two rounds of a loop that collects into a variable. -/
def ColI {α : Type} (w : World) (K : World → Prop) (B t e : Nat) (enc : α → Value) (pre : List α) (W : World) : Prop := Fr0 w W ∧ K W ∧ ∃ v, Box W B t v ∧ W.ownsRow w.heap.size e 1 v pre.length (pre.map enc)
theorem ColI.grow {α : Type} {w : World} {K : World → Prop} {B t e : Nat} {enc : α → Value} {B' : Nat} (hB : w.heap.size ≤ B') (hK : ∀ W W', K W → Grow B' W W' → K W') (pre : List α) (W W' : World) (h : ColI w K B t e enc pre W) (hG : Grow B' W W') : ColI w K B t e enc pre W' := by
  obtain ⟨h1, h2, v, h4, h5⟩ := h
  exact ⟨Fr.andGrow h1 hG hB, hK _ _ h2 hG, v, h4.grow hG, own_grow h5 hG⟩

/-! ### Count -/
def CountPost (w : World) (n : Nat) (v : Value) (w' : World) : Prop := v = .int .i64 (n : Int) ∧ Fr0 w w'
def CountI (w : World) (K : World → Prop) (B : Nat) (pre : List Nat) (W : World) : Prop := Fr0 w W ∧ K W ∧ Box W B 3 (.int .i64 (pre.length : Int))

/-! ### Or: of two sets, which may be one -/
def OrPost (w : World) (g a n : Nat) (p : Nat → Bool) (v : Value) (w' : World) : Prop := v = .tuple #[] ∧ Fr (fun k => k = a) w w' ∧ IsBits w' g a n p
def OrI (w : World) (K : World → Prop) (B g a n : Nat) (p : Nat → Bool) (pre : List Nat) (W : World) : Prop :=
  Fr (fun k => k = a) w W ∧ K W ∧ Box W B 44 (.pointer (some ⟨g, 0, none⟩)) ∧ IsBits W g a n (fun k => p k || (decide (k < n) && decide (k ∈ pre)))
theorem ints_new (W : World) (x : Int) (t : Nat) : IntsAt (W.alloc (.cells #[.int .i64 x] t)) (some ⟨W.heap.size, 0, none⟩) [x] :=
  ⟨by simp, .inr ⟨_, _, rfl, fun j hj => by
    have : j = 0 := by simpa using hj
    subst this
    have := (Box.new W t (.int .i64 x)).cell
    simpa using this⟩⟩
theorem orP_snoc (n : Nat) (p : Nat → Bool) (pre : List Nat) (x : Nat) : putP n (fun k => p k || (decide (k < n) && decide (k ∈ pre))) [(x : Int)] = (fun k => p k || (decide (k < n) && decide (k ∈ pre ++ [x]))) := by
  funext k
  simp only [putP, List.mem_singleton, List.mem_append, Int.natCast_inj, Bool.decide_or, Bool.and_or_distrib_left, Bool.or_assoc]
theorem IsBits.uniq {W : World} {g a a' n n' : Nat} {p p' : Nat → Bool} (h : IsBits W g a n p) (h' : IsBits W g a' n' p') : a = a' ∧ n = n' ∧ p = p' := by
  obtain ⟨ws, h1, h2, h3, h4, h5⟩ := h.words
  obtain ⟨ws', h1', h2', h3', h4', h5'⟩ := h'.words
  rw [h2] at h2'
  have e := Option.some.inj h2'
  injection e with e _ _
  have e1 := congrArg (fun a => a.toList) e
  simp only [List.cons.injEq, Value.int.injEq, Value.slice.injEq, Option.some.injEq, Addr.mk.injEq, and_true, true_and] at e1
  obtain ⟨e2, e3, _⟩ := e1
  have e2' : n = n' := by omega
  subst e2'; subst e3
  rw [h3] at h3'
  have e4 := Option.some.inj h3'
  injection e4 with e4 _ _
  have hw : ws = ws' := by
    have := congrArg (fun a => a.toList) e4
    simp only [u64s] at this
    apply List.ext_getElem (by omega)
    intro i hi hi'
    have h6 := congrArg (fun l => l[i]?) this
    simp only [List.getElem?_map, List.getElem?_eq_getElem hi, List.getElem?_eq_getElem hi'] at h6
    simp at h6
    omega
  subst hw
  exact ⟨rfl, rfl, funext fun k => by rw [h5, h5']⟩
set_option maxHeartbeats 2000000 in
theorem Or_is {w : World} {g a n : Nat} {p : Nat → Bool} (h : IsBits w g a n p) {g' a' n' : Nat} {p' : Nat → Bool} (h' : IsBits w g' a' n' p') (hne : a' ≠ a ∨ g' = g) :
    Calls Tryd.prog 34 #[.pointer (some ⟨g, 0, none⟩), .pointer (some ⟨g', 0, none⟩)] w (Rets (OrPost w g a n (fun k => p k || (decide (k < n) && p' k)))) := by
  have hne' : a' ≠ a ∨ (g' = g ∧ a' = a ∧ n' = n ∧ p' = p) := by
    rcases hne with h1 | rfl
    · exact .inl h1
    · have := h'.uniq h; exact .inr ⟨rfl, this⟩
  clear hne
  refine (callsIn_wide (n := 0)).1 (callsIn_of_wp_marks Tryd.func34 rfl trivial ?_)
  simp only [Tryd.ntmps34, List.size_toArray, List.length_cons, List.length_nil, Nat.reduceAdd, Nat.reduceSub, Array.replicate_succ, Array.replicate_zero, List.push_toArray, List.append_toArray, List.nil_append, List.cons_append]
  gi_wp2_with (gi_at_call 50; refine (callsIn_wide.2 (All_is _ _)).mono ?_; rintro e w' ⟨rfl, rfl⟩)
  obtain ⟨w1, hw1⟩ : ∃ w1, (w.alloc (.cells #[.pointer (some ⟨g, 0, none⟩)] 44)).alloc (.cells #[.pointer (some ⟨g', 0, none⟩)] 44) = w1 := ⟨_, rfl⟩
  have hf0 : Fr0 w w1 := hw1 ▸ (fr_alloc _ _ _).alloc _
  have hbo : Box w1 w.heap.size 44 (.pointer (some ⟨g, 0, none⟩)) := hw1 ▸ (Box.new w _ _).fr0 (fr_alloc _ _ _)
  have hbc : Box w1 (w.heap.size + 1) 44 (.pointer (some ⟨g', 0, none⟩)) := by
    have := Box.new (w.alloc (.cells #[.pointer (some ⟨g, 0, none⟩)] 44)) 44 (.pointer (some ⟨g', 0, none⟩)); rw [World.size_alloc] at this; exact hw1 ▸ this
  have hsz : w1.heap.size = w.heap.size + 2 := by rw [← hw1]; simp
  rw [hw1]
  have hga := h.ltg
  have haa := h.lta
  have hga' := h'.ltg
  have haa' := h'.lta
  have ht := h.ne_tabs
  have ht' := h'.ne_tabs
  have hga2 := h'.ne_ga
  have hgx : g' ≠ a := by
    rintro rfl
    obtain ⟨ws, _, _, h3, _⟩ := h.words
    obtain ⟨ws', _, h2, _⟩ := h'.words
    rw [h3] at h2
    have e := Option.some.inj h2
    injection e with _ e _
    exact absurd e (by decide)
  refine range_law (gf := 69) (lb := #[.pointer (some ⟨w.heap.size + 1, 0, none⟩)]) rfl (enters_of Tryd.func69 (by kernel_rfl) rfl)
    (All1_is (w.heap.size + 1) g' a' n' p') (fun _ => rfl)
    (OrI w (bitsK (w.heap.size + 1) g' a' n' p') w.heap.size g a n p)
    (fun _ _ _ => False) (fun pre W hI => hI.2.1) ?stab (fun _ _ _ _ hf _ => hf) ⟨hf0.mono (fun _ _ x => x.elim), ⟨hbc, h'.fr0 hf0⟩, hbo, (h.fr0 hf0).ext (fun k => by simp)⟩ ?round ?done ?stop
  case stab => exact fun pre W W' h hG => ⟨Fr.andGrow h.1 hG (by omega), bitsK.grow _ _ h.2.1 hG, h.2.2.1.grow hG, h.2.2.2.grow hG⟩
  case round =>
    intro l pre x W hl hI hpre
    have hxm : x ∈ elems n' p' := hpre.subset (by simp)
    gi_wp2
    refine ⟨ND.refl _ _, fun W2 hG => ?_⟩
    obtain ⟨k1, k2, k3, k4⟩ := hI
    replace k1 := Fr.andGrow k1 hG (by omega)
    replace k2 := bitsK.grow _ _ k2 hG
    replace k3 := k3.grow hG
    replace k4 := k4.grow hG
    have k3c := k3.cell
    gi_wp2_with (gi_at_call 30; refine (CallsIn.inRound l (callsIn_wide.2 (Put_is (k4.fr0 (fr_alloc _ _ _)) (ints_new _ _ _)))).mono ?_; rintro e w' ⟨rfl, c4, c5⟩)
    have c6 : Fr (fun k => k = a) W2 w' := (fr_alloc (fun k => k = a) W2 (.cells #[.int .i64 x] 3)).trans c4 (fun _ _ x => x)
    rw [orP_snoc] at c5
    refine ⟨c6.ND _, k1.trans c6 (fun _ _ x => x), ⟨k2.1.fr c6 (by omega), ?_⟩, k3.fr c6 (by omega), c5⟩
    rcases hne' with h1 | ⟨rfl, rfl, rfl, rfl⟩
    · exact k2.2.fr c6 (by omega) hgx h1
    · refine c5.ext (fun k => ?_)
      by_cases hk : k ∈ pre ++ [x]
      · have := (mem_elems.1 (hpre.subset hk)).2
        simp [this]
      · simp [hk]
  case done =>
    intro D W hD hI hk
    obtain ⟨k1, k2, k3, k4⟩ := hI
    gi_wp2
    refine leave0n rfl hk fun W' hG => ⟨_, rfl, rfl, Fr.andGrow k1 hG (by omega), (k4.grow hG).ext (fun k => ?_)⟩
    by_cases hk : p' k = true
    · have := h'.lt k hk
      simp [mem_elems, hk, this]
    · simp [mem_elems, hk]
  case stop => intro D c pre W hD _ hf; exact hf.elim

theorem Or_nil {w : World} {g a n : Nat} {p : Nat → Bool} (h : IsBits w g a n p) :
    Calls Tryd.prog 34 #[.pointer (some ⟨g, 0, none⟩), .pointer none] w (Rets (OrPost w g a n p)) := by
  refine (callsIn_wide (n := 0)).1 (callsIn_of_wp_marks Tryd.func34 rfl trivial ?_)
  simp only [Tryd.ntmps34, List.size_toArray, List.length_cons, List.length_nil, Nat.reduceAdd, Nat.reduceSub, Array.replicate_succ, Array.replicate_zero, List.push_toArray, List.append_toArray, List.nil_append, List.cons_append]
  gi_wp2_with (gi_at_call 50; refine (callsIn_wide.2 (All_is _ _)).mono ?_; rintro e w' ⟨rfl, rfl⟩)
  obtain ⟨w1, hw1⟩ : ∃ w1, (w.alloc (.cells #[.pointer (some ⟨g, 0, none⟩)] 44)).alloc (.cells #[.pointer none] 44) = w1 := ⟨_, rfl⟩
  have hf0 : Fr0 w w1 := hw1 ▸ (fr_alloc _ _ _).alloc _
  have hbc : Box w1 (w.heap.size + 1) 44 (.pointer none) := by
    have := Box.new (w.alloc (.cells #[.pointer (some ⟨g, 0, none⟩)] 44)) 44 (.pointer none); rw [World.size_alloc] at this; exact hw1 ▸ this
  have hsz : w1.heap.size = w.heap.size + 2 := by rw [← hw1]; simp
  rw [hw1]
  refine range_law (gf := 69) (lb := #[.pointer (some ⟨w.heap.size + 1, 0, none⟩)]) rfl (enters_of Tryd.func69 (by kernel_rfl) rfl)
    (All1_nil (w.heap.size + 1)) (fun _ => rfl)
    (fun _ W => Fr0 w W ∧ Box W (w.heap.size + 1) 44 (.pointer none))
    (fun _ _ _ => False) (fun pre W hI => hI.2) ?stab (fun _ _ _ _ hf _ => hf) ⟨hf0, hbc⟩ ?round ?done ?stop
  case stab => exact fun pre W W' h hG => ⟨Fr.andGrow h.1 hG (by omega), h.2.grow hG⟩
  case round =>
    intro l pre x W hl hI hpre
    have := hpre.length_le; simp at this
  case done =>
    intro D W hD hI hk
    gi_wp2
    exact leave0n rfl hk fun W' hG => ⟨_, rfl, rfl, (Fr.andGrow hI.1 hG (by omega)).mono (fun _ _ x => x.elim), h.fr0 (Fr.andGrow hI.1 hG (by omega))⟩
  case stop => intro D c pre W hD _ hf; exact hf.elim

/-! ### Clone, Full -/
/-- A new set was made. -/
def NewBits (w : World) (n : Nat) (p : Nat → Bool) (v : Value) (w' : World) : Prop :=
  ∃ g a, v = .pointer (some ⟨g, 0, none⟩) ∧ w.heap.size ≤ g ∧ w.heap.size ≤ a ∧ Fr0 w w' ∧ IsBits w' g a n p
set_option maxHeartbeats 1000000 in
theorem Full_is (n : Int) (w : World) (hT : Tab w) (hn : n ≤ 65536) : Calls Tryd.prog 23 #[.int .i64 n] w (Rets (NewBits w n.toNat (fun k => decide (k < n.toNat)))) := by
  go_enter Tryd.func23, Tryd.ntmps23
  go_wp2_with (go_at_call 29; refine (New_is _ _ hT).mono ?_; rintro e w' ⟨_, rfl, g1, a1, rfl, h1, h2, h3, h4⟩; rw [show (max 0 (min (n : Int) 65536)).toNat = n.toNat by omega] at h4; have c0 := h4.c0)
  obtain ⟨m, hm⟩ : ∃ m, n.toNat = m := ⟨_, rfl⟩
  go_loopw [11] (fun i wr => ∃ j : Nat, j ≤ n.toNat ∧ i = .int .i64 j ∧ Fr (fun k => k = a1) w' wr ∧ IsBits wr g1 a1 n.toNat (fun k => decide (k < j))) (fun i _ => n.toNat - (intOf i).toNat)
  case atStart => exact ⟨0, Nat.zero_le _, rfl, Fr.refl _ _, h4.ext (fun k => by simp)⟩
  case round =>
    obtain ⟨j, hj, rfl, hf, hb⟩ := hrel
    by_cases hlt : j < n.toNat
    · go_wp2_with (go_at_call 30; refine (Put_is (hb.fr0 (fr_alloc _ _ _)) (ints_new _ _ _)).mono ?_; rintro e w2 ⟨rfl, c4, c5⟩)
      go_roundw
      case rel =>
        refine ⟨j + 1, by omega, by go_num, (hf.alloc _).trans c4 (fun _ _ x => x), c5.ext (fun k => ?_)⟩
        simp only [putP, List.mem_singleton, Int.natCast_inj]
        by_cases h1 : k < j
        · simp [h1]; omega
        · by_cases h2 : k = j
          · subst h2; simp [hlt]
          · simp [h1, h2]; omega
      case measure => simp [intOf]; omega
    · go_wp2
      go_ret
      refine ⟨_, rfl, g1, a1, rfl, h1, h2, Fr.trans h3 hf (fun j hj e => by omega), hb.ext (fun k => ?_)⟩
      rw [show j = n.toNat by omega]
end Go.Proofs.YtdcjfpjpboafnaaDoor
