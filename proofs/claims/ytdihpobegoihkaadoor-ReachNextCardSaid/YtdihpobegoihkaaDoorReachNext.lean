/- The vertices to which arcs lead from a vertex, within any set, or from which they lead to it, are gone through as the document says: the law's walk. -/
import Derived.Test.YtdihpobegoihkaaDoorNextPure
import Derived.Test.YtdihpobegoihkaaDoorTurned
import Derived.Test.YtdihpobegoihkaaDoorWorks21
import Derived.Test.YtdihpobegoihkaaDoorLawKit
namespace Go.Proofs.YtdihpobegoihkaaDoor
set_option linter.all false
open Go.RowKit Go.Shelf
attribute [local go_sem] Oper.semAt_some run_eql_func
set_option maxRecDepth 100000

theorem few21 {n : Int} {l : List ArcI} {most arcs : Int} (h : fewI n l most arcs = true) : 0 ≤ n ∧ n ≤ most ∧ (l.length : Int) ≤ arcs ∧ l.any (badI n) = false := by
  simp only [fewI, Bool.and_eq_true, decide_eq_true_eq, Bool.not_eq_true'] at h
  exact ⟨h.1.1.1, h.1.1.2, h.1.2, h.2⟩
theorem outR_swap (n : Nat) (Mx : Nat → Nat → Int) (m : Int) (u w : Nat) : outR n (fun a b => Mx b a) (u : Int) m w = outR n Mx (w : Int) m u := by
  show hit m (maskR n (fun a b => Mx b a) u w) = hit m (maskR n Mx w u)
  unfold maskR
  by_cases h : (u < n ∧ w < n)
  · obtain ⟨h1, h2⟩ := h
    simp [h1, h2]
  · have h1 : ¬ (0 ≤ (u : Int) ∧ (u : Int) < n ∧ 0 ≤ (w : Int) ∧ (w : Int) < n) := by omega
    have h2 : ¬ (0 ≤ (w : Int) ∧ (w : Int) < n ∧ 0 ≤ (u : Int) ∧ (u : Int) < n) := by omega
    rw [if_neg h1, if_neg h2]
section
variable {P : Program} {fn : Func} {R : Ending → World → Prop} {tmps : Array Value} {W : World} {D : Nat}
theorem leaveC (hk : W.heap[D]? = some (.deferred (some []))) (h : ∀ W', Grow D W W' → ∃ v, (results fn tmps).run P W' = .ok v W' ∧ R (.returned v) W') :
    bodyPostM Fence.wide 0 P fn R .ret { tmps, defers := [{ target := .collected D, args := #[] }] } W :=
  ⟨by simp, .inl ⟨_, _, rfl, run_takeDeferred hk, h _ (shut_mark hk)⟩⟩
theorem leaveC0 {v : Value} (h : (results fn tmps).run P W = .ok v W) (hR : R (.returned v) W) : bodyPostM Fence.wide 0 P fn R .ret { tmps, defers := [] } W := ⟨v, h, hR⟩
end
theorem wpListIn_append_own_at {F : Fence} {n : Nat} {P : Program} (w : World) {ops : Array Oper} {rest : List Oper} {o : Oper} {a : Act} {Q : Exit → Act → World → Prop}
    (hg : o.guard = none) (s x : Operand) (t : TypeId) (hop : o.op = Op.call { callee := Callee.builtin Builtin.append, args := #[s, x], argTypes := #[t, t] })
    (base : Nat) (e : TypeId) (i : TypeInfo) (z : Value) (size bytes : Nat) (h1 : P.underlying t = some (.slice e)) (h2 : P.info? e = some i) (h3 : i.zero = some z) (h4 : i.size = size) (h5 : i.bytes = bytes) (h6 : z.cells.size = size) (h7 : 0 < size)
    (v : Value) (k : Nat) (xs : List Value) (hs : a.eval s = v) (hown : w.ownsRow base e size v k xs) (ad : Addr) (m c : Nat) (news : List Value) (hx : a.eval x = .slice (some ad) m c) (hn : news.length = m * size)
    (hc : ∀ j u, news[j]? = some u → w.cell? (ad.add j) = some u) (h1c : ∀ u ∈ news, u.oneCell' = true) (b1 : k + m ≤ maxLen) (b2 : (k + m) * bytes ≤ 140737488355328) (b3 : base ≤ w.heap.size)
    (hK : ∀ v' w', w'.ownsRow base e size v' (k + m) (xs ++ news) → w.grownBy w' v.ownBlock → (v'.ownBlock = v.ownBlock ∨ v'.ownBlock = some w.heap.size) → wpListIn F n P ops Q rest (a.put o.dst v') w') :
    wpListIn F n P ops Q (o :: rest) a w := by
  refine wpListIn_plain hg fun K hK' => ?_
  obtain ⟨v', w', hrun, r1, r2, _, r3⟩ := run_append_own_at (P := P) w base t o.type e i z size bytes h1 h2 h3 h4 h5 h6 h7 v k xs hown ad m c news hn hc h1c b1 b2 b3
  unfold Oper.wpIn
  refine ⟨?_, ?_⟩
  · simp [Oper.about, hop, resolve, Target.leads, Sem.run_pure]
  · rw [Oper.semAt_plain F _ _ (by rw [hop]; intro c hc'; cases hc')]
    simp [execOp, hop, resolve, invoke, builtin, hs, hx, hrun, Result.andThen]
    exact hK' _ _ (hK v' w' r1 r2 r3)
theorem elem_ints : Tryd.prog.underlying 37 = some (.slice (Tryd.prog.elem 37)) := by kernel_rfl
theorem slice_head (A : Option Addr) (n c k : Nat) (hk : k ≤ c) (wx : World) : (Instr.slice 37 (.slice A n c) none (some (.int .i64 (k : Int))) none).run Tryd.prog wx = .ok (.slice A k c) wx := by
  rw [run_slice_h (P := Tryd.prog) wx 37 A n c elem_ints .i64 (k : Int) (by omega) (by omega)]
  go_simp
theorem IntsAt.take {W : World} {A : Option Addr} {xs : List Int} (h : IntsAt W A xs) (k : Nat) : IntsAt W A (xs.take k) := by
  refine ⟨Nat.le_trans (by rw [List.length_take]; omega) h.1, ?_⟩
  rcases h.2 with rfl | ⟨b, o, e, hc⟩
  · exact .inl (by simp)
  · refine .inr ⟨b, o, e, fun j hj => ?_⟩
    rw [List.length_take] at hj
    rw [hc j (by omega), List.getD_eq_getElem?_getD, List.getD_eq_getElem?_getD, List.getElem?_take_of_lt (by omega)]
/-- The footprint of a list that lies in a variable. -/
def VarO (b : Nat) (W : World) (k : Nat) : Prop := k = b ∨ ∃ v, W.cell? ⟨b, 0, none⟩ = some v ∧ v.ownBlock = some k
/-- Between two rounds of a loop that collects, at most so many. -/
def ColN (w : World) (most : Nat) (pre : List Int) (W : World) : Prop :=
  Fr0 w W ∧ pre.length ≤ most ∧ ∃ v, Box W w.heap.size 37 v ∧ W.ownsRow w.heap.size 3 1 v pre.length (intsI pre)
/-- What the law gets: as many as are wanted. -/
def ColX (w : World) (most : Nat) (pre : List Int) (W : World) : Prop :=
  Fr0 w W ∧ ∃ v, Box W w.heap.size 37 v ∧ most < pre.length ∧ W.ownsRow w.heap.size 3 1 v most (intsI (pre.take most))
set_option maxHeartbeats 16000000 in
theorem ReachNext_is {W : World} {n v m most : Int} {A B : Option Addr} {c d : Nat} {l : List ArcI} {xs : List Int} {back : Bool} (hT : Tab W) (hl : ArcsAt W A l) (hP : Plain A l.length c) (hx : IntsAt W B xs) (hp : Plain B xs.length d) (hmo : (Lit.int .u8 most).wf = true) :
    Calls Tryd.prog 8 #[.int .i64 n, .slice A l.length c, .int .i64 v, .slice B xs.length d, .int .i64 m, .bool back, .int .u8 most] W (Rets (SamePost true W)) := by
  obtain ⟨hm0, hm1⟩ : 0 ≤ most ∧ most ≤ 255 := by
    have := hmo
    simp [Lit.wf, IntKind.min, IntKind.max, IntKind.signed, IntKind.bits] at this
    omega
  obtain ⟨mx, rfl⟩ : ∃ mx : Nat, most = mx := ⟨most.toNat, by omega⟩
  clear hmo
  have hf0 : Fr0 W (W.alloc (.cells #[.int .u8 (mx : Int)] 5)) := fr_alloc _ _ _
  obtain ⟨w0, hw0⟩ : ∃ w0, W.alloc (.cells #[.int .u8 (mx : Int)] 5) = w0 := ⟨_, rfl⟩
  rw [hw0] at hf0
  have hb0 : Box w0 W.heap.size 5 (.int .u8 (mx : Int)) := hw0 ▸ Box.new _ _ _
  have hs0 : w0.heap.size = W.heap.size + 1 := by rw [← hw0]; simp
  have HF := Lib.hid (Few_is (c := c) (hl.fr0 hf0) n 30 200)
  have HT := Lib.hid (hT.fr hf0 (fun x => x))
  have HL := Lib.hid (hl.fr0 hf0)
  have HX := Lib.hid (hx.fr0 hf0)
  have HW := Lib.hid (works21_is HT.out)
  refine (callsIn_wide (n := 0)).1 (callsIn_of_wp_marks Tryd.func8 rfl trivial ?_)
  simp only [Tryd.ntmps8, List.size_toArray, List.length_cons, List.length_nil, Nat.reduceAdd, Nat.reduceSub, Array.replicate_succ, Array.replicate_zero, List.push_toArray, List.append_toArray, List.nil_append, List.cons_append]
  cases hf : fewI n l 30 200 with
  | false =>
    rw [hf] at HF
    clear hl hT hP hf hx hp hb0 HT HL HX
    gi_wp2_with (first
      | (gi_at_call 13; (try rw [hw0]); refine (callsIn_wide.2 HF.out).mono ?_; rintro e w' ⟨rfl, rfl⟩)
      | (gi_at_call 30; refine (callsIn_wide.2 HW.out).mono ?_; rintro e w' ⟨_, rfl, rfl, hf1⟩))
    refine leaveC0 (results_tmp (t := 14) rfl _ _ _) ⟨_, rfl, rfl, hf0.trans0 hf1⟩
  | true =>
    rw [hf] at HF
    by_cases h60 : xs.length > 60
    · have h60' : (xs.length : Int) > 60 := by omega
      clear hl hT hP hf hx hp hb0 HT HL HX
      gi_wp2_with (first
        | (gi_at_call 13; (try rw [hw0]); refine (callsIn_wide.2 HF.out).mono ?_; rintro e w' ⟨rfl, rfl⟩)
        | (gi_at_call 30; refine (callsIn_wide.2 HW.out).mono ?_; rintro e w' ⟨_, rfl, rfl, hf1⟩))
      refine leaveC0 (results_tmp (t := 14) rfl _ _ _) ⟨_, rfl, rfl, hf0.trans0 hf1⟩
    · have h60' : ¬ (xs.length : Int) > 60 := by omega
      obtain ⟨h0, h1, h2, h3⟩ := few21 hf
      obtain ⟨N, rfl⟩ : ∃ N : Nat, n = (N : Int) := ⟨n.toNat, by omega⟩
      have hN : N ≤ 1024 := by omega
      have hN1 : N ≤ 100 := by omega
      have H3 := Lib.hid h3
      clear hl hT hP hf hx hp h3
      obtain ⟨i0, hi, hz0, hz1, hz2⟩ := info_parts info_int
      rcases back with _ | _
      focus
        gi_wp2_with (first
          | (gi_at_call 13; (try rw [hw0]); refine (callsIn_wide.2 HF.out).mono ?_; rintro e w' ⟨rfl, rfl⟩)
          | (gi_at_call 38; refine (callsIn_wide.2 (OutN_is (hR.fr0 (hf3a.trans0 hf4)) _ _ _)).mono ?_; rintro e w5 ⟨rfl, hw5⟩; have HW5 := Lib.hid hw5.symm; clear hw5)
          | (gi_at_call 33; refine (callsIn_wide.2 (set21_is (c := d) (HT.out.fr hF3 (fun x => x)) (HX.out.fr0 hF3))).mono ?_; rintro e w4 ⟨_, rfl, g4, a4, rfl, hg4, ha4, hf4, hI4⟩; have hF4 := hF3.trans0 hf4)
          | (gi_at_call 15; refine (callsIn_wide.2 (RefNew_is (c := c) (HL.out.fr0 hF2) hN H3.out)).mono ?_; rintro e w3 ⟨_, rfl, Rt, ct, rfl, hf3, hR3⟩; have hf3a : Fr0 w2 (w3.alloc (.cells #[.int .i64 (N : Int), .slice Rt N ct] 27)) := hf3.trans0 (fr_alloc _ _ _); have hF3 := hF2.trans0 hf3a)
          | (gi_at_call 31; refine (callsIn_wide.2 (build21_is (c := c) (HL.out.fr0 hF1) (by omega) hN H3.out)).mono ?_; rintro e w2 ⟨v1, rfl, r, p, pt, J, J', rfl, hf2, hR, hG, hGt, hB1, hB2⟩; have hF2 := hF1.trans0 hf2)
          | (gi_at_call 30; refine (callsIn_wide.2 HW.out).mono ?_; rintro e w1 ⟨_, rfl, rfl, hf1⟩; have hF1 := hf1))
        obtain ⟨hNB, hf5, hs5⟩ := next_boxes HW5.out
        obtain ⟨wI, hwI⟩ : ∃ wI, w5 = wI := ⟨_, rfl⟩
        subst hwI
        have hFI : Fr0 w0 w5 := hF4.trans0 hf5
        have hRt : RefG w5 N Rt (mxL l) := (hR3.fr0 (fr_alloc _ _ _)).fr0 (hf4.trans0 hf5)
        have hbt : w5.heap[w3.heap.size]? = some (.cells #[.int .i64 (N : Int), .slice Rt N ct] 27 (0, 0)) := Fr0.heap' (hf4.trans0 hf5) (World.alloc_heap_new _ _)
        have hsp := next_spec hNB (hG.fr0 ((hf3a.trans0 hf4).trans0 hf5)) (hI4.fr0 hf5)
        rw [nextV_is hB1 hN1 (Mx := mxL l) (xs := xs) (m := m) (fun u w => hB1.out m u w) v] at hsp
        generalize hMt : mxL l = Mt at hsp hRt
        obtain ⟨lw, hlw⟩ : ∃ lw, (elems N (outR N Mt v m)).filter (fun w : Nat => decide ((w : Int) ∈ xs)) = lw := ⟨_, rfl⟩
        have hll : lw.length ≤ N := by rw [← hlw]; exact Nat.le_trans (List.length_filter_le _ _) (elems_len _ _)
        have HLW := Lib.hid hlw
        rw [hlw] at hsp
        clear hlw
        generalize hbI : w4.heap.size = bI at hsp ⊢
        generalize hb16 : w3.heap.size = b16 at hbt ⊢
        have hs4 : bI ≤ w5.heap.size := by omega
        clear hNB hf5 HW5 hf4 hI4 hf3a hf3 hR3 hF3 hF4 hB1 hB2 hG hGt hR hF1 hF2 hMt hbI hb16 hs5
        generalize w5 = wI at *
      rotate_left
      focus
        gi_wp2_with (first
          | (gi_at_call 13; (try rw [hw0]); refine (callsIn_wide.2 HF.out).mono ?_; rintro e w' ⟨rfl, rfl⟩)
          | (gi_at_call 40; refine (callsIn_wide.2 (Turned21O_is (c := c0) (hR3.fr0 ((fr_alloc _ _ _).trans0 h37)))).mono ?_; rintro e w8 ⟨_, rfl, Rt, ct, L, rfl, hf8, hO8⟩; have hb8 := hf8.heap' hb7; have p0 : w8.cell? ⟨w3.heap.size, 0, none⟩ = some (.int .i64 N) := (by simp [World.cell?, hb8]); have p1 : w8.cell? ⟨w3.heap.size, 1, none⟩ = some (.slice R0 N c0) := (by simp [World.cell?, hb8]); have z0 : w8.frozen? ⟨w3.heap.size, 0, none⟩ = false := (by simp [World.frozen?, hb8]); have z1 : w8.frozen? ⟨w3.heap.size, 1, none⟩ = false := (by simp [World.frozen?, hb8]))
          | (gi_at_call 39; refine (callsIn_wide.2 (InN_is (hR.fr0 (hf3a.trans0 h36)) _ _ _)).mono ?_; rintro e w7 ⟨rfl, hw7⟩; have HW7 := Lib.hid hw7.symm; clear hw7; obtain ⟨hNB7, hf7, hs7⟩ := next_boxes HW7.out; have h37 := h36.trans0 hf7; have hF7 := hF6.trans0 hf7; have hb7 := Fr0.heap' h37 (World.alloc_heap_new _ _); have q0 : w7.cell? ⟨w3.heap.size, 0, none⟩ = some (.int .i64 N) := (by simp [World.cell?, hb7]); have q1 : w7.cell? ⟨w3.heap.size, 1, none⟩ = some (.slice R0 N c0) := (by simp [World.cell?, hb7]))
          | (gi_at_call 33; refine (callsIn_wide.2 (set21_is (c := d) (HT.out.fr hF5 (fun x => x)) (HX.out.fr0 hF5))).mono ?_; rintro e w6 ⟨_, rfl, g6, a6, rfl, hg6, ha6, hf6, hI6⟩; have hF6 := hF5.trans0 hf6; have h36 := (hf4.trans0 hf5).trans0 hf6)
          | (gi_at_call 38; refine (callsIn_wide.2 (OutN_is (hR.fr0 (hf3a.trans0 hf4)) _ _ _)).mono ?_; rintro e w5 ⟨rfl, hw5⟩; have HW5 := Lib.hid hw5.symm; clear hw5; obtain ⟨hNB5, hf5, hs5⟩ := next_boxes HW5.out; have hF5 := hF4.trans0 hf5)
          | (gi_at_call 33; refine (callsIn_wide.2 (set21_is (c := d) (HT.out.fr hF3 (fun x => x)) (HX.out.fr0 hF3))).mono ?_; rintro e w4 ⟨_, rfl, g4, a4, rfl, hg4, ha4, hf4, hI4⟩; have hF4 := hF3.trans0 hf4)
          | (gi_at_call 15; refine (callsIn_wide.2 (RefNew_is (c := c) (HL.out.fr0 hF2) hN H3.out)).mono ?_; rintro e w3 ⟨_, rfl, R0, c0, rfl, hf3, hR3⟩; have hf3a : Fr0 w2 (w3.alloc (.cells #[.int .i64 (N : Int), .slice R0 N c0] 27)) := hf3.trans0 (fr_alloc _ _ _); have hF3 := hF2.trans0 hf3a)
          | (gi_at_call 31; refine (callsIn_wide.2 (build21_is (c := c) (HL.out.fr0 hF1) (by omega) hN H3.out)).mono ?_; rintro e w2 ⟨v1, rfl, r, p, pt, J, J', rfl, hf2, hR, hG, hGt, hB1, hB2⟩; have hF2 := hF1.trans0 hf2)
          | (gi_at_call 30; refine (callsIn_wide.2 HW.out).mono ?_; rintro e w1 ⟨_, rfl, rfl, hf1⟩; have hF1 := hf1))
        have hsz3 := hf3.size
        have hsz2 := hF2.size
        have hsz37 := h37.size
        rw [World.size_alloc] at hsz37
        have htl := HT.out.lt
        have hsz36 := h36.size
        rw [World.size_alloc] at hsz36
        have hsz35 := (hf4.trans0 hf5).size
        rw [World.size_alloc] at hsz35
        obtain ⟨wI, hwI⟩ : ∃ wI, (w8.setCell ⟨w3.heap.size, 0, none⟩ (.int .i64 (N : Int))).setCell ⟨w3.heap.size, 1, none⟩ (.slice Rt N ct) = wI := ⟨_, rfl⟩
        have hFs : Fr (fun b => b = w3.heap.size) w8 wI := hwI ▸ (fr_setCell (S := fun b => b = w3.heap.size) w8 ⟨w3.heap.size, 0, none⟩ (.int .i64 (N : Int)) (fun _ => rfl)).setCell ⟨w3.heap.size, 1, none⟩ (.slice Rt N ct) (fun _ => rfl)
        have hFI : Fr0 w0 wI := (hF7.trans0 hf8).trans hFs (fun j hj e => by omega)
        have h2I : Fr0 w2 wI := ((hf3a.trans0 h37).trans0 hf8).trans hFs (fun j hj e => by omega)
        have h7I : Fr (fun b => b = w3.heap.size) w7 wI := Fr.trans (hf8.mono (fun _ _ h => h.elim)) hFs (fun _ _ h => h)
        have h6I : Fr (fun b => b = w3.heap.size) w6 wI := Fr.trans (hf7.mono (fun _ _ h => h.elim)) h7I (fun _ _ h => h)
        have hRt : RefG wI N Rt (fun a b => mxL l b a) := (hO8.fr hFs (fun j hj e => by omega)).ref
        have hbt : wI.heap[w3.heap.size]? = some (.cells #[.int .i64 (N : Int), .slice Rt N ct] 27 (0, 0)) := by
          have := heap_setCell_same (o := 1) (heap_setCell_same (o := 0) hb8 (.int .i64 (N : Int))) (.slice Rt N ct)
          rw [hwI] at this
          simpa using this
        have hNB : NextBoxes wI w6.heap.size pt (some ⟨g6, 0, none⟩) v m := by
          obtain ⟨x1, x2, x3, x4⟩ := hNB7
          exact ⟨x1.fr h7I (by omega), x2.fr h7I (by omega), x3.fr h7I (by omega), x4.fr h7I (by omega)⟩
        have hsp := next_spec hNB (hGt.fr0 h2I) (hI6.fr h6I (by omega) (by omega) (by omega))
        have hE := fun u w : Nat => (outR_swap N (mxL l) m u w).trans ((hB1.out m w u).trans (turn_arc hB1 hB2 m u w))
        rw [nextV_is hB2 hN1 (Mx := fun a b => mxL l b a) (xs := xs) (m := m) hE v] at hsp
        have hsz8 : w8.heap.size = wI.heap.size := by rw [← hwI]; simp
        rw [hwI, hsz8]
        generalize hMt : (fun a b => mxL l b a) = Mt at hsp hRt
        obtain ⟨lw, hlw⟩ : ∃ lw, (elems N (outR N Mt v m)).filter (fun w : Nat => decide ((w : Int) ∈ xs)) = lw := ⟨_, rfl⟩
        have hll : lw.length ≤ N := by rw [← hlw]; exact Nat.le_trans (List.length_filter_le _ _) (elems_len _ _)
        have HLW := Lib.hid hlw
        rw [hlw] at hsp
        clear hlw
        have hs4 : w6.heap.size ≤ wI.heap.size := h6I.size
        generalize hbI : w6.heap.size = bI at hsp hs4 ⊢
        generalize hb16 : w3.heap.size = b16 at hbt ⊢
        clear hNB hNB7 hNB5 hf5 hf7 HW5 HW7 hf4 hI4 hI6 hf3a hf3 hR3 hF3 hF4 hF5 hF6 hF7 hB1 hB2 hG hGt hR hF1 hF2 hMt hbI hb16 hs5 hs7 h37 h36 hb7 q0 q1 hb8 p0 p1 z0 z1 hO8 hf8 hwI hFs h2I h7I h6I hE hsz3 hsz2 hsz37 hsz36 hsz35 htl hsz8
      all_goals
        obtain ⟨wA, hwA⟩ : ∃ wA, wI.alloc (.cells #[.slice none 0 0] 37) = wA := ⟨_, rfl⟩
        have hbA : Box wA wI.heap.size 37 (.slice none 0 0) := hwA ▸ Box.new _ _ _
        have hfA : Fr0 wI wA := hwA ▸ fr_alloc _ _ _
        have hsA : wA.heap.size = wI.heap.size + 1 := by rw [← hwA]; simp
        have hs0I := hFI.size
        rw [hwA]
        clear hwA
        have HRT := Lib.hid hRt
        clear hRt
        refine range_lawF (gf := 84) (lb := #[.pointer (some ⟨bI, 0, none⟩), .pointer (some ⟨bI + 1, 0, none⟩), .pointer (some ⟨bI + 3, 0, none⟩), .pointer (some ⟨bI + 2, 0, none⟩)]) rfl (enters_of Tryd.func84 (by kernel_rfl) rfl)
          hsp (fun _ => rfl) (ColN wI mx) (fun c pre W => c = .exit 0 ∧ ColX wI mx pre W) (VarO wI.heap.size) (fun pre W h => h.1) ?stab ?stabx ?start ?low ?olow ?round ?done ?stop
        case stab =>
          rintro pre W1 W2 ⟨q1, q2, v, q3, q4⟩ hG
          exact ⟨Fr.andGrow q1 hG (by omega), q2, v, q3.grow hG, own_grow q4 hG⟩
        case stabx =>
          rintro c pre W1 W2 ⟨q0, q1, v, q3, q5, q4⟩ hG
          exact ⟨q0, Fr.andGrow q1 hG (by omega), v, q3.grow hG, q5, own_grow q4 hG⟩
        case start => exact ⟨hfA, by simp, _, hbA, own_nil _ _ _ _⟩
        case low =>
          rintro k W1 _ hG (rfl | ⟨v, hv, hb⟩)
          · omega
          · rw [(hbA.grow hG).cell] at hv; cases hv; cases hb
        case olow =>
          rintro pre W1 W2 k ⟨_, _, v, hb, _⟩ hG (rfl | ⟨v', hv, he⟩)
          · exact .inl rfl
          · refine .inr ⟨v', ?_, he⟩
            rw [(hb.grow hG).cell] at hv
            rw [hb.cell]
            exact hv
        case round =>
          intro y pre x Wx hy hI hpre
          gi_wp2
          refine ⟨trivial, fun W2 hG => ?_⟩
          obtain ⟨h1, h2, v, h3, h4⟩ := hI
          replace h1 := Fr.andGrow h1 hG (by omega)
          replace h3 := h3.grow hG
          replace h4 := own_grow h4 hG
          obtain ⟨A4, c4, rfl⟩ := own_form h4
          have h3c := h3.cell
          have h3f := h3.frozen
          have hbm := (hb0.fr0 (hFI.trans0 h1)).cell
          have hs1 := h1.size
          by_cases hmx : pre.length = mx
          · have hmx' : (pre.length : Int) = (mx : Int) := by omega
            gi_wp2
            refine ⟨⟨ND.refl _ _, rfl, h1, _, h3, by simp; omega, ?_⟩, fun k o h _ hn => ⟨h, hn⟩⟩
            have e1 : (pre ++ [x]).take mx = pre := by rw [← hmx]; simp
            rw [e1, ← hmx]
            exact h4
          · have hmx' : ¬ (pre.length : Int) = (mx : Int) := by omega
            gi_wp2_with (gi_at_builtin; refine wpListIn_append_own_at _ rfl _ _ 37 rfl wI.heap.size 3 i0 (.int .i64 0) 1 8 Tryd.underlying37 hi hz0 hz1 hz2 rfl (by decide) _ _ _ rfl (h4.alloc _) ⟨W2.heap.size, 0, none⟩ 1 1 [.int .i64 x] rfl rfl (cell_one_new _ _ _) (by simp [Value.oneCell']) (by unfold maxLen; omega) (by omega) (by simp; omega) ?_; intro v' w1' hown' hgrow hat; obtain ⟨g', cap', rfl⟩ := ownsRow_succ hown'; obtain ⟨c1, c2, c3, c4'⟩ := collect h3 (by decide) h4 hown' hgrow; have c1c := c1.cell; have c1f := c1.frozen)
            have hno : ∀ j, j < wI.heap.size → ¬ (j = wI.heap.size ∨ (Value.slice A4 pre.length c4).ownBlock = some j) := fun j hj h => h.elim (fun e => by omega) (fun e => own_old h4 hj e)
            refine ⟨⟨c4'.ND _, Fr.trans h1 c4' hno, by simp; omega, _, c2, by simpa [intsI] using c3⟩, ?_⟩
            intro k o hk _ hn
            have hne : ¬ (k = wI.heap.size ∨ (Value.slice A4 pre.length c4).ownBlock = some k) := fun h => hn (h.elim .inl (fun e => .inr ⟨_, h3c, e⟩))
            refine ⟨c4'.heap hk hne, ?_⟩
            rintro (e | ⟨v2, hv2, he⟩)
            · exact hne (.inl e)
            · rw [c2.cell] at hv2
              cases hv2
              have hkl := heap_lt hk
              rcases hat with h | h
              · exact hne (.inr (h ▸ he))
              · rw [h] at he
                simp at he
                omega
        case done =>
          intro D Wd hD hI hk2
          obtain ⟨h1, h2, v, h3, h4⟩ := hI
          obtain ⟨A4, c4, rfl⟩ := own_form h4
          have hnl : (natI lw).length = lw.length := by simp [natI]
          have h4' := h4
          rw [hnl] at h2 h3 h4
          have h3c := h3.cell
          have hbm := (hb0.fr0 (hFI.trans0 h1)).cell
          have hb16 := Fr0.heap' h1 hbt
          have b0 : Wd.cell? ⟨b16, 0, none⟩ = some (.int .i64 N) := by simp [World.cell?, hb16]
          have b1 : Wd.cell? ⟨b16, 1, none⟩ = some (.slice Rt N ct) := by simp [World.cell?, hb16]
          have HO := Lib.hid (Out21_is (c := ct) (d := d) (HRT.out.fr0 h1) (HX.out.fr0 (hFI.trans0 h1)) v m)
          rw [HLW.out] at HO
          gi_wp2_with (gi_at_call 41; refine (callsIn_wide.2 HO.out).mono ?_; rintro e w10 ⟨v10, rfl, hf10, ho10⟩; obtain ⟨A10, c10, rfl⟩ := own_form ho10)
          have hc10 : lw.length ≤ c10 := own_cap ho10
          have hIg := own_intsI h4' (by simp [natI]; omega)
          have hIw := own_ints ho10 (by omega)
          have hmn : ¬ (mx : Int) < (lw.length : Int) := by omega
          have hwr : IntKind.i64.wrap (mx : Int) = (mx : Int) := by rw [IntKind.wrap_i64]; omega
          have hsl := slice_head A10 lw.length c10 lw.length hc10
          have KS := Lib.hid (fun w' (f : Fr0 w10 w') => Same_is (c := c4) (d := c10) ((hIg.fr0 hf10).fr0 f) (hIw.fr0 f))
          rw [hnl] at KS
          have h3d := (h3.fr0 hf10).cell
          have hbd := hf10.cell hbm (fun x => x)
          refine wpIn_wide.2 ?_
          refine wp_region_still_tail 8 (by kernel_rfl) (by kernel_rfl) ?_
          simp only [List.take_succ_cons, List.take_zero, List.drop_succ_cons, List.drop_zero]
          change wpStill _ _ (World.drew _) _ _ _
          repeat still_step
          refine wpStill_nil ?_
          change wpList _ _ _ _ _ (World.drew _)
          go_wp2_with (go_at_call 19; refine (KS.out _ (fr_drew _ _)).mono ?_; rintro e w11 ⟨_, rfl, rfl, hf11⟩)
          gi_wp2
          refine leave1 rfl (hf11.nd _ _ (hf10.nd _ _ hk2 rfl) rfl) (fun W' hG => ⟨_, rfl, rfl, Fr.andGrow (((hf0.trans0 (hFI.trans0 h1)).trans0 hf10).trans0 ((fr_drew _ _).trans0 hf11)) hG (by omega)⟩)
        case stop =>
          rintro D cc pre Wd hD hpre ⟨rfl, hX⟩ hk2
          obtain ⟨h1, v, h3, hlt, h4⟩ := hX
          obtain ⟨A4, c4, rfl⟩ := own_form h4
          obtain ⟨rest, hrest⟩ := hpre
          have hnl : (natI lw).length = lw.length := by simp [natI]
          have hlm : mx < lw.length := by rw [← hnl, ← hrest]; simp; omega
          have htk : pre.take mx = natI (lw.take mx) := by
            rw [show natI (lw.take mx) = (natI lw).take mx by simp [natI], ← hrest, List.take_append_of_le_length (by omega)]
          rw [htk] at h4
          have htl : (lw.take mx).length = mx := by rw [List.length_take]; omega
          have htn : (natI (lw.take mx)).length = mx := by simp [natI]; omega
          have h3c := h3.cell
          have hbm := (hb0.fr0 (hFI.trans0 h1)).cell
          have hb16 := Fr0.heap' h1 hbt
          have b0 : Wd.cell? ⟨b16, 0, none⟩ = some (.int .i64 N) := by simp [World.cell?, hb16]
          have b1 : Wd.cell? ⟨b16, 1, none⟩ = some (.slice Rt N ct) := by simp [World.cell?, hb16]
          have HO := Lib.hid (Out21_is (c := ct) (d := d) (HRT.out.fr0 h1) (HX.out.fr0 (hFI.trans0 h1)) v m)
          rw [HLW.out] at HO
          have HH := Lib.hid (And.intro hrest (And.intro htk (And.intro htl htn)))
          clear hrest htk htl htn
          gi_wp2_with (gi_at_call 41; refine (callsIn_wide.2 HO.out).mono ?_; rintro e w10 ⟨v10, rfl, hf10, ho10⟩; obtain ⟨A10, c10, rfl⟩ := own_form ho10)
          have hc10 : lw.length ≤ c10 := own_cap ho10
          have hIg : IntsAt Wd A4 (natI (lw.take mx)) := own_intsI (c := c4) (by rw [HH.out.2.2.2]; exact h4) (by rw [HH.out.2.2.2]; omega)
          have hIw : IntsAt w10 A10 (natI (lw.take mx)) := by
            have := own_ints ho10 (by omega)
            have h2 := this.take mx
            rwa [show (natI lw).take mx = natI (lw.take mx) by simp [natI]] at h2
          have hmn : (mx : Int) < (lw.length : Int) := by omega
          have hwr : IntKind.i64.wrap (mx : Int) = (mx : Int) := by rw [IntKind.wrap_i64]; omega
          have hsl := slice_head A10 lw.length c10 mx (by omega)
          have KS := Lib.hid (fun w' (f : Fr0 w10 w') => Same_is (c := c4) (d := c10) ((hIg.fr0 hf10).fr0 f) (hIw.fr0 f))
          rw [HH.out.2.2.2] at KS
          have h3d := (h3.fr0 hf10).cell
          have hbd := hf10.cell hbm (fun x => x)
          refine wpIn_wide.2 ?_
          refine wp_region_still_tail 8 (by kernel_rfl) (by kernel_rfl) ?_
          simp only [List.take_succ_cons, List.take_zero, List.drop_succ_cons, List.drop_zero]
          change wpStill _ _ (World.drew _) _ _ _
          repeat still_step
          refine wpStill_nil ?_
          change wpList _ _ _ _ _ (World.drew _)
          go_wp2_with (go_at_call 19; refine (KS.out _ (fr_drew _ _)).mono ?_; rintro e w11 ⟨_, rfl, rfl, hf11⟩)
          gi_wp2
          refine leave1 rfl (hf11.nd _ _ (hf10.nd _ _ hk2 rfl) rfl) (fun W' hG => ⟨_, rfl, rfl, Fr.andGrow (((hf0.trans0 (hFI.trans0 h1)).trans0 hf10).trans0 ((fr_drew _ _).trans0 hf11)) hG (by omega)⟩)
end Go.Proofs.YtdihpobegoihkaaDoor
