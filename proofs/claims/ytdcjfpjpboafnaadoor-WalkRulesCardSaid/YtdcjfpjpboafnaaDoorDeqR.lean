/- DeqP, DeqQ, DeqR, in one text. -/
import Derived.Test.YtdcjfpjpboafnaaDoorFinder
import Derived.Deep.RegionHeld3
namespace Go.Proofs.YtdcjfpjpboafnaaDoor
set_option linter.all false
open Go.RowKit Go.Shelf
attribute [local go_sem] Oper.semAt_some
set_option maxRecDepth 100000

abbrev encS : Int × Bool → Array Value := fun x => #[.agg #[.int .i64 x.1, .bool x.2]]
theorem IsDqS.fr {S : Nat → Prop} {W W' : World} {B q ty N top : Nat} {pre post : List Value} {A : Option Addr} {vs l : List (Int × Bool)} (h : IsDqS W B q ty pre post A N top vs l) (f : Fr S W W') (hq : ¬ S q) (hr : ∀ rb, A = some ⟨rb, 0, none⟩ → ¬ S rb) : IsDqS W' B q ty pre post A N top vs l := by
  refine ⟨h.blk.fr f hq, h.ring.imp id ?_⟩
  rintro ⟨rb, e, h1, h2, h3, h4⟩
  exact ⟨rb, e, h1, h2, h3.fr f (hr rb e), h4⟩
theorem IsDqS.grow {C : Nat} {W W' : World} {B q ty N top : Nat} {pre post : List Value} {A : Option Addr} {vs l : List (Int × Bool)} (h : IsDqS W B q ty pre post A N top vs l) (f : Grow C W W') : IsDqS W' B q ty pre post A N top vs l := by
  refine ⟨f.heap h.blk, h.ring.imp id ?_⟩
  rintro ⟨rb, e, h1, h2, h3, h4⟩
  exact ⟨rb, e, h1, h2, f.heap h3, h4⟩
def dqsK (c B q ty : Nat) (pre post : List Value) (A : Option Addr) (N top : Nat) (vs l : List (Int × Bool)) (W : World) : Prop := Box W c 108 (.pointer (some ⟨q, pre.length, none⟩)) ∧ IsDqS W B q ty pre post A N top vs l
theorem dqsK.grow {c B q ty N top C : Nat} {pre post : List Value} {A : Option Addr} {vs l : List (Int × Bool)} (W W' : World) (h : dqsK c B q ty pre post A N top vs l W) (hG : Grow C W W') : dqsK c B q ty pre post A N top vs l W' := ⟨h.1.grow hG, h.2.grow hG⟩
theorem yield_anyS {α : Type} {l : Nat} {pre : List α} {x : α} {J Jx : List α → World → Prop} {W1 W2 : World} {e : Ending} (h : RdPost l pre x J Jx W1 e W2) :
    ∃ b, e = .returned (.bool b) ∧ ND (l + 1) W1 W2 ∧ ((b = true ∧ J (pre ++ [x]) W2) ∨ (b = false ∧ Jx (pre ++ [x]) W2)) := by
  obtain ⟨h1, ⟨rfl, h2⟩ | ⟨rfl, h2⟩⟩ := h
  · exact ⟨true, rfl, h1, .inl ⟨rfl, h2⟩⟩
  · exact ⟨false, rfl, h1, .inr ⟨rfl, h2⟩⟩
set_option maxHeartbeats 2000000 in
theorem EachS1_is (c B q ty : Nat) (pre post : List Value) (A : Option Addr) (N top : Nat) (vs l : List (Int × Bool)) (hN : N ≤ 100000000) : IterSpec Tryd.prog 87 #[.pointer (some ⟨c, 0, none⟩)] encS l (dqsK c B q ty pre post A N top vs l) := by
  intro y J Jx W hl hJK hJg hJxg h0 hY
  generalize hpl : pre.length = o
  have HPL := Lib.hid hpl
  clear hpl
  refine callsIn_of_wp Tryd.func87 rfl trivial ?_
  simp only [Tryd.ntmps87, List.size_toArray, List.length_cons, List.length_nil, Nat.reduceAdd, Nat.reduceSub, Array.replicate_succ, Array.replicate_zero, List.push_toArray, List.append_toArray, List.nil_append, List.cons_append]
  gi_wp2_with fail
  gi_loopw [3] (fun v wr => ∃ k : Nat, k ≤ l.length ∧ v = .int .i64 k ∧ J (l.take k) wr ∧ ND (y + 1) W wr) (fun v _ => l.length - (intOf v).toNat)
  case atStart => exact ⟨0, by omega, rfl, h0, ND.refl _ _⟩
  case round =>
    obtain ⟨k, hk, rfl, hJs, hnd⟩ := hrel
    obtain ⟨hbox, hd⟩ := hJK _ _ hJs
    have hbc := hbox.cell
    have HL := Lib.hid (fun w' (f : Fr0 wr w') => DLenS_is (hd.fr0 f).blk)
    rw [HPL.out] at hbc HL
    have hgr0 : ∀ w', Fr0 wr w' → Grow W.heap.size wr w' := fun w' f => Fr0.grow f _
    by_cases hlt : k < l.length
    · have hlt' : (k : Int) < (l.length : Int) := by omega
      rcases hd.ring with ⟨_, _, _, _, e⟩ | ⟨rb, rfl, hB, hqr, hr, hvl, htop, hln, hat⟩
      · rw [e] at hlt; cases hlt
      have c0 := hd.blk.c0
      have c1 := hd.blk.c1
      rw [HPL.out] at c0 c1
      have HA := Lib.hid (fun w' (f : Fr0 wr w') => DAtS_c (f.cell c0 (fun x => x)) (f.cell c1 (fun x => x)) (by omega) hN (by omega) (k := k) (by omega))
      have hi : (top + k) % N < N := Nat.mod_lt _ (by omega)
      have d1 := hr.c0 (i := (top + k) % N) (by omega)
      have d2 := hr.c1 (i := (top + k) % N) (by omega)
      rw [hat k hlt] at d1 d2
      have htk := take_snoc_sp l k hlt
      generalize hx : l.getD k (0, false) = x at d1 d2 htk
      generalize hix : (top + k) % N = ix at d1 d2 hi HA
      have hi' : (ix : Int) < (N : Int) := by omega
      have hgr : ∀ w', Fr0 wr w' → Grow W.heap.size wr w' := fun w' f => Fr0.grow f _
      have hpre : l.take k ++ [x] <+: l := by rw [← htk]; exact List.take_prefix _ _
      have HTK := Lib.hid htk
      clear htk c1 hat hx hix
      gi_wp2_with fail
      gi_region_with (first
        | (gi_at_call 53; refine (callsIn_wide.2 (HL.out _ (fr_drew _ _))).mono ?_; rintro e w' ⟨rfl, rfl⟩)
        | (gi_at_call 55; refine (callsIn_wide.2 (HA.out _ (fr_drew _ _))).mono ?_; rintro e w3 ⟨_, rfl, rfl, hf3⟩; have hF3 : Fr0 wr w3 := (fr_drew _ _).trans0 hf3; have c0 := hF3.cell c0 (fun x => x); have d1 := hF3.cell d1 (fun x => x); have d2 := hF3.cell d2 (fun x => x); have hbc := hF3.cell hbc (fun x => x); obtain ⟨fn, tmps, assign, body, hy, hR⟩ := hY (l.take k) x w3 (hJg _ _ _ hJs (hgr _ hF3)) hpre)
        | (refine hR.mono ?_; rintro e W3 hyy; obtain ⟨b, rfl, hyn, hyc⟩ := yield_anyS hyy))
      all_goals
        have hnd3 : ND (y + 1) W W3 := (hnd.trans (hF3.ND _)).trans hyn
        cases b with
        | true =>
          have hJ3 : J (l.take k ++ [x]) W3 := by
            rcases hyc with ⟨_, h⟩ | ⟨e, _⟩
            · exact h
            · cases e
          gi_wp2
          go_roundw
          case rel => exact ⟨k + 1, by omega, by go_num, by rw [HTK.out]; exact hJ3, hnd3⟩
          case measure => simp [intOf]; omega
        | false =>
          have hJ3 : Jx (l.take k ++ [x]) W3 := by
            rcases hyc with ⟨e, _⟩ | ⟨_, h⟩
            · cases e
            · exact h
          gi_wp2
          go_end0
          exact ⟨⟨_, rfl⟩, hnd3, .inr ⟨_, hpre, hJ3⟩⟩
    · have hke : k = l.length := by omega
      subst hke
      gi_wp2_with fail
      gi_quiet (first | (gi_at_call 53; exact CallsIn.quiet_of_same (callsIn_wide.2 ((HL.out _ (fr_drewN _ _ _)).mono (fun _ _ h => ⟨h.1, h.2.symm⟩)))))
      gi_wp2_with fail
      go_end0
      exact ⟨⟨_, rfl⟩, hnd.trans ((fr_drewN (fun _ => False) _ _).ND _), .inl (by rw [List.take_of_length_le (Nat.le_refl _)] at hJs; exact hJg _ _ _ hJs (hgr0 _ (fr_drewN _ _ _)))⟩
theorem EachS_is (p : Option Addr) (w : World) : Calls Tryd.prog 85 #[.pointer p] w fun e w' =>
    e = .returned (.func (.func 87) #[] #[.pointer (some ⟨w.heap.size, 0, none⟩)]) ∧ w.alloc (.cells #[.pointer p] 108) = w' := by
  go_enter Tryd.func85, Tryd.ntmps85
  go_wp2_with fail
  go_ret
  exact ⟨rfl, rfl⟩
end Go.Proofs.YtdcjfpjpboafnaaDoor
namespace Go.Proofs.YtdcjfpjpboafnaaDoor
set_option linter.all false
open Go.RowKit Go.Shelf
attribute [local go_sem] Oper.semAt_some
set_option maxRecDepth 100000

theorem IsDqS.ring_lt {W : World} {B q ty N top : Nat} {pre post : List Value} {A : Option Addr} {vs l : List (Int × Bool)} (h : IsDqS W B q ty pre post A N top vs l) {k : Nat} (e : A = some ⟨k, 0, none⟩) : B ≤ k ∧ k < W.heap.size := by
  rcases h.ring with ⟨e2, _⟩ | ⟨rb2, e2, hB, _, hr, _⟩
  · rw [e2] at e; cases e
  · rw [e2] at e; cases e; exact ⟨hB, heap_lt hr⟩
theorem IsDqS.len_le {W : World} {B q ty N top : Nat} {pre post : List Value} {A : Option Addr} {vs l : List (Int × Bool)} (h : IsDqS W B q ty pre post A N top vs l) : l.length ≤ N ∧ top ≤ N := by
  rcases h.ring with ⟨_, rfl, rfl, _, rfl⟩ | ⟨_, _, _, _, _, _, h1, h2, _⟩
  · exact ⟨Nat.le_refl _, Nat.le_refl _⟩
  · exact ⟨h2, by omega⟩
theorem spt_new (w : World) (x : Int × Bool) : ∀ j u, ([.int .i64 x.1, .bool x.2] : List Value)[j]? = some u → (w.alloc (.cells #[.int .i64 x.1, .bool x.2] 63)).cell? ((⟨w.heap.size, 0, none⟩ : Addr).add j) = some u := by
  intro j u hu
  have ha : (⟨w.heap.size, 0, none⟩ : Addr).add j = ⟨w.heap.size, j, none⟩ := by
    unfold Addr.add
    split
    · rename_i h0; subst h0; rfl
    · simp
  rw [ha]
  simp only [World.cell?, World.alloc_heap_new]
  simpa using hu
set_option maxHeartbeats 1000000 in
theorem DListS_is {w : World} {B q ty N top : Nat} {pre post : List Value} {A : Option Addr} {vs l : List (Int × Bool)} (h : IsDqS w B q ty pre post A N top vs l) (hN : N ≤ 100000000) (hlen : l.length ≤ 100000000) : Calls Tryd.prog 80 #[.pointer (some ⟨q, pre.length, none⟩)] w (Rets (SptsPost w l)) := by
  obtain ⟨i0, hi, hz0, hz1, hz2⟩ := info_parts info_spt
  generalize hpl : pre.length = o
  refine (callsIn_wide (n := 0)).1 (callsIn_of_wp_marks Tryd.func80 rfl trivial ?_)
  simp only [Tryd.ntmps80, List.size_toArray, List.length_cons, List.length_nil, Nat.reduceAdd, Nat.reduceSub, Array.replicate_succ, Array.replicate_zero, List.push_toArray, List.append_toArray, List.nil_append, List.cons_append]
  have HPL := Lib.hid hpl
  clear hpl
  gi_wp2_with (gi_at_call 85; refine (callsIn_wide.2 (EachS_is _ _)).mono ?_; rintro e w' ⟨rfl, rfl⟩)
  have hpl := HPL.out
  subst hpl
  have hb2 : IsDqS ((w.alloc (.cells #[.slice none 0 0] 72)).alloc (.cells #[.pointer (some ⟨q, pre.length, none⟩)] 108)) B q ty pre post A N top vs l := (h.fr0 (fr_alloc _ _ _)).fr0 (fr_alloc _ _ _)
  have hbo : Box ((w.alloc (.cells #[.slice none 0 0] 72)).alloc (.cells #[.pointer (some ⟨q, pre.length, none⟩)] 108)) w.heap.size 72 (.slice none 0 0) := (Box.new w _ _).fr0 (fr_alloc _ _ _)
  have hbc : Box ((w.alloc (.cells #[.slice none 0 0] 72)).alloc (.cells #[.pointer (some ⟨q, pre.length, none⟩)] 108)) (w.heap.size + 1) 108 (.pointer (some ⟨q, pre.length, none⟩)) := by
    have := Box.new (w.alloc (.cells #[.slice none 0 0] 72)) 108 (.pointer (some ⟨q, pre.length, none⟩)); rwa [World.size_alloc] at this
  have hf0 : Fr0 w ((w.alloc (.cells #[.slice none 0 0] 72)).alloc (.cells #[.pointer (some ⟨q, pre.length, none⟩)] 108)) := (fr_alloc _ _ _).alloc _
  have hgw := h.blk.lt
  have hrw : ∀ rb, A = some ⟨rb, 0, none⟩ → rb < w.heap.size := fun rb e => (h.ring_lt e).2
  refine range_law (gf := 87) (lb := #[.pointer (some ⟨w.heap.size + 1, 0, none⟩)]) rfl (enters_of Tryd.func87 (by kernel_rfl) rfl)
    (EachS1_is (w.heap.size + 1) B q ty pre post A N top vs l hN) (fun _ => rfl)
    (ColS w (dqsK (w.heap.size + 1) B q ty pre post A N top vs l) w.heap.size 72)
    (fun _ _ _ => False) (fun pre W hI => hI.2.1) (ColS.grow (by simp; omega) dqsK.grow) (fun _ _ _ _ hf _ => hf) ⟨hf0, ⟨hbc, hb2⟩, _, hbo, own_nil _ _ _ _⟩ ?round ?done ?stop
  case round =>
    intro y pre x W hl hI hpre
    have hpl : pre.length < l.length := by have := hpre.length_le; simp at this; omega
    gi_wp2
    refine ⟨nd_alloc _ _ _, fun W2 hG => ?_⟩
    have hW1 : w.heap.size + 1 + 1 ≤ W.heap.size := by have := hI.1.size; have := hI.2.1.1.lt; omega
    have hxb := hG.heap (World.alloc_heap_new W (.cells #[.int .i64 x.1, .bool x.2] 63))
    have x0 : W2.cell? ⟨W.heap.size, 0, none⟩ = some (.int .i64 x.1) := by unfold World.cell?; rw [hxb]; rfl
    have x1 : W2.cell? ⟨W.heap.size, 1, none⟩ = some (.bool x.2) := by unfold World.cell?; rw [hxb]; rfl
    obtain ⟨k1, k2, v, k4, k5⟩ := ColS.grow (by first | omega | (simp; omega)) dqsK.grow _ _ _ (ColS.grow (B' := 0 + w.heap.size) (by omega) dqsK.grow _ _ _ hI ((Fr0.grow (fr_alloc _ W (.cells #[.int .i64 x.1, .bool x.2] 63)) _))) hG
    clear hxb
    have k4c := k4.cell
    have kz := k1.size
    clear hI
    gi_wp2_with (gi_at_builtin; refine wpListIn_append_own _ rfl _ _ 72 rfl w.heap.size 63 i0 _ 2 16 Tryd.underlying72 hi hz0 hz1 hz2 rfl (by decide) _ _ _ rfl (k5.alloc _) ⟨W2.heap.size, 0, none⟩ 1 1 [.int .i64 x.1, .bool x.2] rfl rfl (spt_new _ _) (by simp [Value.oneCell']) (by unfold maxLen; omega) (by omega) (by simp; omega) ?_; intro v' w1 hown' hgrow _; obtain ⟨g', cap', rfl⟩ := ownsRow_succ hown'; obtain ⟨c1, c2, c3, c4⟩ := collect k4 (by decide) k5 hown' hgrow; have c1c := c1.cell; have c1f := c1.frozen)
    have hno : ∀ j, j < w.heap.size → ¬ (j = w.heap.size ∨ v.ownBlock = some j) := fun j hj h => h.elim (fun e => by omega) (fun e => own_old k5 hj e)
    refine ⟨c4.ND _, Fr.trans k1 c4 hno, ⟨k2.1.fr c4 ?_, k2.2.fr c4 (hno _ hgw) (fun rb e => hno _ (hrw rb e))⟩, _, c2, by simpa [sptCells_snoc] using c3⟩
    rintro (e | e)
    · omega
    · exact own_ne k5 k2.1 (by decide) e
  case done =>
    intro D W hD hI hk
    obtain ⟨k1, k2, v, k4, k5⟩ := hI
    have k4c := k4.cell
    gi_wp2
    refine leave1 rfl hk fun W' hG => ⟨_, rfl, Fr.andGrow k1 hG (by simp at hD; omega), ?_⟩
    exact own_grow k5 hG
  case stop => intro D c pre W hD _ hf; exact hf.elim
def GrowSPost (W : World) (B q ty : Nat) (pre post : List Value) (A : Option Addr) (N : Nat) (l : List (Int × Bool)) (v : Value) (w' : World) : Prop :=
  v = .tuple #[] ∧ Fr (fun k => k = q) W w' ∧ ∃ A' N' top' vs', IsDqS w' B q ty pre post A' N' top' vs' l ∧ l.length < N' ∧ N' ≤ max N (2 * l.length + 4) ∧ (A' = A ∨ ∃ k, A' = some ⟨k, 0, none⟩ ∧ W.heap.size ≤ k)
set_option maxHeartbeats 4000000 in
theorem DGrowS_is {W : World} {B q ty N top : Nat} {pre post : List Value} {A : Option Addr} {vs l : List (Int × Bool)} (h : IsDqS W B q ty pre post A N top vs l) (hB : B ≤ W.heap.size) (hN : N ≤ 10000000) :
    Calls Tryd.prog 71 #[.pointer (some ⟨q, pre.length, none⟩)] W (Rets (GrowSPost W B q ty pre post A N l)) := by
  have c0 := h.blk.c0
  have c2 := h.blk.c2
  obtain ⟨hln, htn⟩ := h.len_le
  have HD := Lib.hid h
  obtain ⟨o, ho⟩ : ∃ o, o = pre.length := ⟨_, rfl⟩
  rw [← ho] at c0 c2 ⊢
  have HO := Lib.hid ho
  clear h ho
  by_cases hlt : l.length < N
  · have hlt' : (l.length : Int) < (N : Int) := by omega
    go_enter Tryd.func71, Tryd.ntmps71
    go_wp2_with fail
    go_quiet (fail)
    go_wp2_with fail
    refine bodyPost_ret (results_none rfl _ _ _) rfl ?_
    exact ⟨_, rfl, rfl, fr_drewN _ _ _, A, N, top, vs, HD.out.fr0 (fr_drewN _ _ _), hlt, by omega, .inl rfl⟩
  · have hNe : N = l.length := by omega
    subst hNe
    have hw2 : IntKind.i64.wrap (2 * (l.length : Int)) = 2 * (l.length : Int) := by rw [IntKind.wrap_i64]; omega
    obtain ⟨M, z, hz, hM, hd⟩ : ∃ (M : Nat) (z : Int), z = (M : Int) ∧ M = max 4 (2 * l.length) ∧ ((2 * (l.length : Int) ≤ 4 ∧ z = 4) ∨ (4 < 2 * (l.length : Int) ∧ z = 2 * (l.length : Int))) := ⟨max 4 (2 * l.length), _, rfl, rfl, by omega⟩
    have hmk : ∀ w, (Instr.makeSlice 72 (.int .i64 z) (.int .i64 z)).run Tryd.prog w = .ok (.slice (some ⟨w.heap.size, 0, none⟩) M M) (w.alloc (.cells (sptCells (List.replicate M (0, false))).toArray 63)) := fun w => by rw [hz]; exact make_spts M (by omega) w
    have HM := Lib.hid hM
    clear hM hz
    rcases hd with ⟨hd, rfl⟩ | ⟨hd, rfl⟩
    all_goals
      go_enter Tryd.func71, Tryd.ntmps71
      go_wp2_with fail
      go_quiet (fail)
      go_wp2_with fail
      have hF1 : Fr0 W ((W.drewN nq).alloc (.cells (sptCells (List.replicate M (0, false))).toArray 63)) := (fr_drewN _ _ _).alloc _
      have hr1 : SptRow ((W.drewN nq).alloc (.cells (sptCells (List.replicate M (0, false))).toArray 63)) W.heap.size (List.replicate M (0, false)) := World.alloc_heap_new (W.drewN nq) _
      have hLI := DListS_is (HD.out.fr0 hF1) (by omega) (by omega)
      rw [← HO.out] at hLI
      refine hLI.mono ?_
      rintro e w2 ⟨v2, rfl, hf2, ho2⟩
      obtain ⟨A2, c2', rfl⟩ := own_form ho2
      have hI2 := own_spts ho2 (by omega)
      have hr2 : SptRow w2 W.heap.size (List.replicate M (0, false)) := hf2.heap' hr1
      have hF2 : Fr0 W w2 := hF1.trans0 hf2
      have hql := HD.out.blk.lt
      have hqb := HD.out.blk.fr0 hF2
      have hzl : (List.replicate M ((0 : Int), false)).length = M := List.length_replicate
      have hle : l.length ≤ M := by have := HM.out; omega
      have hqne : ¬ q = W.heap.size := by omega
      clear ho2 hLI
      go_wp2_with (refine wpList_copy_spts (g := W.heap.size) (n := M) (c := c2') (A := A2) (zs := List.replicate M (0, false)) (ys := l) rfl (.tmp 20) (.tmp 22) rfl rfl rfl hr2 hzl hle hI2 ?_; intro w3 hr3 hf3; have hqb3 := hqb.fr hf3 hqne; have e0 := hqb3.c0; have e1 := hqb3.c1; have z0 := hqb3.fz pre.length; have z1 := hqb3.fz (pre.length + 1); rw [← HO.out] at e0 e1 z0 z1)
      obtain ⟨w9, hw9⟩ : ∃ w9, (w3.setCell ⟨q, o, none⟩ (.slice (some ⟨W.heap.size, 0, none⟩) M M)).setCell ⟨q, o + 1, none⟩ (.int .i64 0) = w9 := ⟨_, rfl⟩
      rw [hw9]
      have hF3' : Fr (fun k => k = q) W w3 := Fr.trans (S := fun k => k = q) (hF2.mono (fun _ _ x => x.elim)) hf3 (fun j hj e => by omega)
      have hF9 : Fr (fun k => k = q) w3 w9 := hw9 ▸ (fr_setCell (S := fun b => b = q) w3 ⟨q, o, none⟩ (.slice (some ⟨W.heap.size, 0, none⟩) M M) (fun _ => rfl)).setCell ⟨q, o + 1, none⟩ (.int .i64 0) (fun _ => rfl)
      have hh := (hqb3.set0 (.slice (some ⟨W.heap.size, 0, none⟩) M M)).set1 0
      rw [← HO.out, hw9] at hh
      have hr9 := hr3.fr hF9 (fun e => hqne e.symm)
      have hlM : l.length < M := by have := HM.out; omega
      go_end0
      refine ⟨_, rfl, rfl, hF3'.trans hF9 (fun _ _ x => x), _, M, 0, _, ⟨hh, .inr ⟨W.heap.size, rfl, hB, hqne, hr9, by simp; omega, by omega, by omega, fun j hj => ?_⟩⟩, hlM, by have := HM.out; omega, .inr ⟨_, rfl, Nat.le_refl _⟩⟩
      rw [Nat.zero_add, Nat.mod_eq_of_lt (by omega), List.getD_eq_getElem?_getD, List.getElem?_append_left hj, List.getD_eq_getElem?_getD]
end Go.Proofs.YtdcjfpjpboafnaaDoor
namespace Go.Proofs.YtdcjfpjpboafnaaDoor
set_option linter.all false
open Go.RowKit
set_option maxRecDepth 100000

theorem mod_apartS {t a b N : Nat} (hab : a < b) (hb : b < N) : (t + a) % N ≠ (t + b) % N := by
  intro e
  have h1 := Nat.div_add_mod (t + a) N
  have h2 := Nat.div_add_mod (t + b) N
  rw [e] at h1
  have h3 : N * ((t + b) / N) = N * ((t + a) / N) + (b - a) := by omega
  have h4 : (t + a) / N ≤ (t + b) / N := Nat.div_le_div_right (by omega)
  rcases Nat.lt_or_ge ((t + a) / N) ((t + b) / N) with h | h
  · have : N * ((t + a) / N + 1) ≤ N * ((t + b) / N) := Nat.mul_le_mul_left _ h
    rw [Nat.mul_add, Nat.mul_one] at this
    omega
  · have : (t + a) / N = (t + b) / N := by omega
    rw [this] at h3
    omega
/-- The blocks of a ring. -/
def DqSO (q : Nat) (A : Option Addr) (k : Nat) : Prop := k = q ∨ A = some ⟨k, 0, none⟩
def PushSPost (W : World) (B q ty : Nat) (pre post : List Value) (A : Option Addr) (N : Nat) (l : List (Int × Bool)) (v : Value) (w' : World) : Prop :=
  v = .tuple #[] ∧ Fr (DqSO q A) W w' ∧ ∃ A' N' top' vs', IsDqS w' B q ty pre post A' N' top' vs' l ∧ N' ≤ max N (2 * l.length + 4) ∧ (A' = A ∨ ∃ k, A' = some ⟨k, 0, none⟩ ∧ W.heap.size ≤ k)
set_option maxHeartbeats 4000000 in
theorem DPushS_is {W : World} {B q ty N top : Nat} {pre post : List Value} {A : Option Addr} {vs l : List (Int × Bool)} (h : IsDqS W B q ty pre post A N top vs l) (hB : B ≤ W.heap.size) (hN : N ≤ 10000000) (x : Int × Bool) :
    Calls Tryd.prog 52 #[.pointer (some ⟨q, pre.length, none⟩), .agg #[.int .i64 x.1, .bool x.2]] W (Rets (PushSPost W B q ty pre post A N (l ++ [x]))) := by
  obtain ⟨hln, htn⟩ := h.len_le
  obtain ⟨w0, hw0⟩ : ∃ w0, W.alloc (.cells #[.int .i64 x.1, .bool x.2] 63) = w0 := ⟨_, rfl⟩
  have hf0 : Fr0 W w0 := hw0 ▸ fr_alloc _ _ _
  have hx0 := hw0 ▸ two_spt W (.int .i64 x.1) (.bool x.2)
  have hs0 : w0.heap.size = W.heap.size + 1 := by rw [← hw0]; simp
  have HG := Lib.hid (DGrowS_is (h.fr0 hf0) (by omega) hN)
  have HRL := Lib.hid (fun k e => h.ring_lt (k := k) e)
  have hql := h.blk.lt
  obtain ⟨o, ho⟩ : ∃ o, o = pre.length := ⟨_, rfl⟩
  rw [← ho] at HG ⊢
  have HO := Lib.hid ho
  have HX0 := Lib.hid hx0
  have HS0 := Lib.hid hs0
  clear h ho hx0 hs0
  go_enter Tryd.func52, Tryd.ntmps52
  go_wp2_with (go_at_call 71; (try rw [hw0]); refine (HG.out).mono ?_; rintro e w1 ⟨_, rfl, rfl, hf1, A1, N1, t1, vs1, hD1, hlN, hN1, hA1⟩)
  clear hw0
  rcases hD1.ring with ⟨_, e, _⟩ | ⟨rb, rfl, hBr, hqr, hr, hvl, htop, hln1, hat⟩
  · omega
  have c0 := hD1.blk.c0
  have c1 := hD1.blk.c1
  have c2 := hD1.blk.c2
  have fq := hD1.blk.fz (pre.length + 2)
  rw [← HO.out] at c0 c1 c2 fq
  have hN1' : N1 ≤ 100000000 := by omega
  have HAT := Lib.hid (fun w' (f : Fr0 w1 w') => DAtS_c (f.cell c0 (fun x => x)) (f.cell c1 (fun x => x)) (by omega) hN1' (by omega) (k := l.length) (by omega))
  have hix : (t1 + l.length) % N1 < N1 := Nat.mod_lt _ (by omega)
  generalize hi : (t1 + l.length) % N1 = ix at hix HAT
  have hix' : (ix : Int) < (N1 : Int) := by omega
  have f0 := hr.fz (ix * 2)
  have f1 := hr.fz (ix * 2 + 1)
  have d0 := hr.c0 (i := ix) (by omega)
  have d1 := hr.c1 (i := ix) (by omega)
  have hs0 := HS0.out
  have hx0 := hf1.cell HX0.out.1 (by simp only; omega)
  have hx1 := hf1.cell HX0.out.2 (by simp only; omega)
  have hw2 : IntKind.i64.wrap ((l.length : Int) + 1) = (l.length : Int) + 1 := by rw [IntKind.wrap_i64]; omega
  have HD1 := Lib.hid hD1
  have HI := Lib.hid hi
  have HAT2 := Lib.hid hat
  have HR := Lib.hid hr
  have hrl : rb < w1.heap.size := heap_lt hr
  have HKS := Lib.hid (show ∀ w', Fr0 w1 w' → (w'.cell? ⟨q, o, none⟩ = some (.slice (some ⟨rb, 0, none⟩) N1 N1) ∧ w'.cell? ⟨q, o + 2, none⟩ = some (.int .i64 l.length) ∧ w'.cell? ⟨W.heap.size, 0, none⟩ = some (.int .i64 x.1) ∧ w'.cell? ⟨W.heap.size, 1, none⟩ = some (.bool x.2)) from fun w' f => ⟨f.cell c0 (fun x => x), f.cell c2 (fun x => x), f.cell hx0 (fun x => x), f.cell hx1 (fun x => x)⟩)
  have hrbs : rb ≠ W.heap.size ∧ (rb < W.heap.size → DqSO q A rb) := by
    rcases hA1 with e | ⟨k, e, hk⟩
    · exact ⟨fun e2 => by have := (HRL.out rb e.symm).2; omega, fun _ => .inr e.symm⟩
    · cases e; exact ⟨by omega, fun hlt => by omega⟩
  have HKT := Lib.hid (show ∀ w' u v, Fr0 w1 w' → (((w'.setCell ⟨rb, ix * 2, none⟩ u).setCell ⟨rb, ix * 2 + 1, none⟩ v).cell? ⟨q, o, none⟩ = some (.slice (some ⟨rb, 0, none⟩) N1 N1) ∧ ((w'.setCell ⟨rb, ix * 2, none⟩ u).setCell ⟨rb, ix * 2 + 1, none⟩ v).cell? ⟨q, o + 2, none⟩ = some (.int .i64 l.length) ∧ ((w'.setCell ⟨rb, ix * 2, none⟩ u).setCell ⟨rb, ix * 2 + 1, none⟩ v).cell? ⟨W.heap.size, 0, none⟩ = some (.int .i64 x.1) ∧ ((w'.setCell ⟨rb, ix * 2, none⟩ u).setCell ⟨rb, ix * 2 + 1, none⟩ v).cell? ⟨W.heap.size, 1, none⟩ = some (.bool x.2)) from fun w' u v f => by
    have g : Fr (fun k => k = rb) w' ((w'.setCell ⟨rb, ix * 2, none⟩ u).setCell ⟨rb, ix * 2 + 1, none⟩ v) := (fr_setCell (S := fun k => k = rb) _ _ _ (fun _ => rfl)).setCell _ _ (fun _ => rfl)
    exact ⟨g.cell (f.cell c0 (fun x => x)) hqr, g.cell (f.cell c2 (fun x => x)) hqr, g.cell (f.cell hx0 (fun x => x)) (fun e => hrbs.1 e.symm), g.cell (f.cell hx1 (fun x => x)) (fun e => hrbs.1 e.symm)⟩)
  clear hi hr hat hD1 HG c0 c1 c2 hs0 hx0 hx1
  go_region_held_law (fun w' => w'.cell? ⟨q, o, none⟩ = some (.slice (some ⟨rb, 0, none⟩) N1 N1) ∧ w'.cell? ⟨q, o + 2, none⟩ = some (.int .i64 l.length) ∧ w'.cell? ⟨W.heap.size, 0, none⟩ = some (.int .i64 x.1) ∧ w'.cell? ⟨W.heap.size, 1, none⟩ = some (.bool x.2))
    (first | exact HKS.out _ (fr_drew _ _) | exact HKS.out _ hF2 | exact HKT.out _ _ _ hF2)
    (first
      | (go_at_call 55; refine (HAT.out _ (fr_drew _ _)).mono ?_; rintro e w2 ⟨_, rfl, rfl, hf2⟩; have hF2 : Fr0 w1 w2 := (fr_drew _ _).trans0 hf2; have d0 := hF2.cell d0 (fun x => x); have d1 := hF2.cell d1 (fun x => x); have f0 : w2.frozen? ⟨rb, ix * 2, none⟩ = false := (HR.out.fr hF2 (fun x => x)).fz _; have f1 : w2.frozen? ⟨rb, ix * 2 + 1, none⟩ = false := (HR.out.fr hF2 (fun x => x)).fz _))
  obtain ⟨w3, hw3⟩ : ∃ w3, (w2.setCell ⟨rb, ix * 2, none⟩ (.int .i64 x.1)).setCell ⟨rb, ix * 2 + 1, none⟩ (.bool x.2) = w3 := ⟨_, rfl⟩
  have hf3 : Fr (fun k => k = rb) w2 w3 := hw3 ▸ (fr_setCell (S := fun k => k = rb) _ _ _ (fun _ => rfl)).setCell _ _ (fun _ => rfl)
  have hb3 := (HD1.out.blk.fr0 hF2).fr hf3 hqr
  have hr3 : SptRow w3 rb (vs1.set ix x) := hw3 ▸ (HR.out.fr hF2 (fun x => x)).set (by omega) x
  have c2 := hb3.c2
  have fq := hb3.fz (pre.length + 2)
  rw [← HO.out] at c2 fq
  rw [hw3]
  clear hw3
  go_wp2_with fail
  obtain ⟨w9, hw9⟩ : ∃ w9, w3.setCell ⟨q, o + 2, none⟩ (.int .i64 ((l.length : Int) + 1)) = w9 := ⟨_, rfl⟩
  rw [hw9]
  have hf9 : Fr (fun k => k = q) w3 w9 := hw9 ▸ fr_setCell _ _ _ (fun _ => rfl)
  have hh := hb3.set2 ((l.length : Int) + 1)
  rw [← HO.out, hw9] at hh
  have hr9 := hr3.fr hf9 (fun e => hqr e.symm)
  go_end0
  have hFa : Fr (DqSO q A) W w2 := (((hf0.mono (fun _ _ x => x.elim)).trans hf1 (fun _ _ e => e)).trans0 hF2).mono (fun _ _ x => .inl x)
  refine ⟨_, rfl, rfl, (hFa.trans hf3 (fun j hj e => e ▸ hrbs.2 (e ▸ hj))).trans hf9 (fun j _ e => .inl e), some ⟨rb, 0, none⟩, N1, t1, vs1.set ix x, ⟨?_, .inr ⟨rb, rfl, hBr, hqr, hr9, by rw [List.length_set]; exact hvl, htop, by rw [List.length_append]; exact hlN, fun j hj => ?_⟩⟩, by rw [List.length_append]; omega, hA1.imp id (fun ⟨k, e, hk⟩ => ⟨k, e, by have := HS0.out; omega⟩)⟩
  · rw [List.length_append]; exact hh
  · rw [List.length_append, List.length_singleton] at hj
    by_cases e : j = l.length
    · subst e
      rw [HI.out, List.getD_eq_getElem?_getD, List.getElem?_set_self (by omega), List.getD_eq_getElem?_getD, List.getElem?_append_right (Nat.le_refl _), Nat.sub_self]
      rfl
    · have hne := mod_apartS (t := t1) (a := j) (b := l.length) (N := N1) (by omega) (by omega)
      rw [HI.out] at hne
      rw [List.getD_eq_getElem?_getD, List.getElem?_set_ne (fun h => hne h.symm), ← List.getD_eq_getElem?_getD, HAT2.out j (by omega), List.getD_eq_getElem?_getD, List.getD_eq_getElem?_getD, List.getElem?_append_left (by omega)]
end Go.Proofs.YtdcjfpjpboafnaaDoor
