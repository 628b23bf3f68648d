/- DeqA, DeqB, DeqC, DeqD, in one text. -/
import Derived.Test.YtdihpobegoihkaaDoorRefNew
import Derived.BigRegionIn
import Derived.RegionIn
import Derived.Test.YtdihpobegoihkaaDoorAppRow
import Derived.Laws.CopyOwn
import Derived.Deep.RegionHeldLaw
namespace Go.Proofs.YtdihpobegoihkaaDoor
set_option linter.all false
open Go.RowKit
set_option maxRecDepth 100000

/-- A ring at block q: its slice, where its top is, what it holds. -/
structure IsDeq (W : World) (B q : Nat) (A : Option Addr) (N top : Nat) (vs l : List Int) : Prop where
  blk : W.heap[q]? = some (.cells #[.slice A N N, .int .i64 (top : Int), .int .i64 (l.length : Int)] 116 (0, 0))
  ring : (A = none ∧ N = 0 ∧ top = 0 ∧ vs = [] ∧ l = []) ∨ (∃ rb, A = some ⟨rb, 0, none⟩ ∧ B ≤ rb ∧ IntRow W rb vs ∧ vs.length = N ∧ top < N ∧ l.length ≤ N ∧ ∀ j, j < l.length → vs.getD ((top + j) % N) 0 = l.getD j 0)
section
variable {W W' : World} {B q N top : Nat} {A : Option Addr} {vs l : List Int}
theorem IsDeq.c0 (h : IsDeq W B q A N top vs l) : W.cell? ⟨q, 0, none⟩ = some (.slice A N N) := by have := h.blk; simp [World.cell?, this]
theorem IsDeq.c1 (h : IsDeq W B q A N top vs l) : W.cell? ⟨q, 1, none⟩ = some (.int .i64 top) := by have := h.blk; simp [World.cell?, this]
theorem IsDeq.c2 (h : IsDeq W B q A N top vs l) : W.cell? ⟨q, 2, none⟩ = some (.int .i64 l.length) := by have := h.blk; simp [World.cell?, this]
theorem IsDeq.fz (h : IsDeq W B q A N top vs l) (o : Nat) : W.frozen? ⟨q, o, none⟩ = false := by have := h.blk; simp [World.frozen?, this]
theorem IsDeq.fr {S : Nat → Prop} (h : IsDeq W B q A N top vs l) (f : Fr S W W') (hq : ¬ S q) (hr : ∀ rb, A = some ⟨rb, 0, none⟩ → ¬ S rb) : IsDeq W' B q A N top vs l := by
  refine ⟨f.heap h.blk hq, h.ring.imp id ?_⟩
  rintro ⟨rb, e, h1, h2, h3⟩
  exact ⟨rb, e, h1, f.heap h2 (hr rb e), h3⟩
theorem IsDeq.fr0 (h : IsDeq W B q A N top vs l) (f : Fr0 W W') : IsDeq W' B q A N top vs l := h.fr f (fun x => x) (fun _ _ x => x)
theorem IsDeq.grow {C : Nat} (h : IsDeq W B q A N top vs l) (f : Grow C W W') : IsDeq W' B q A N top vs l := by
  refine ⟨f.heap h.blk, h.ring.imp id ?_⟩
  rintro ⟨rb, e, h1, h2, h3⟩
  exact ⟨rb, e, h1, f.heap h2, h3⟩
theorem IsDeq.lt (h : IsDeq W B q A N top vs l) : q < W.heap.size := heap_lt h.blk
end
theorem DLen_is {W : World} {B q N top : Nat} {A : Option Addr} {vs l : List Int} (h : IsDeq W B q A N top vs l) :
    Calls Tryd.prog 97 #[.pointer (some ⟨q, 0, none⟩)] W fun e w' => e = .returned (.int .i64 l.length) ∧ W = w' := by
  have c2 := h.c2
  clear h
  go_enter Tryd.func97, Tryd.ntmps97
  go_wp2_with fail
  go_ret
  exact ⟨rfl, rfl⟩
theorem DAt_c {W : World} {q N top : Nat} {A : Option Addr} (c0 : W.cell? ⟨q, 0, none⟩ = some (.slice A N N)) (c1 : W.cell? ⟨q, 1, none⟩ = some (.int .i64 top)) (hN : 0 < N) (hsm : N ≤ 100000000) (ht : top ≤ N) {k : Nat} (hk : k ≤ 100000000) :
    Calls Tryd.prog 96 #[.pointer (some ⟨q, 0, none⟩), .int .i64 (k : Int)] W (Rets (IntPost (((top + k) % N : Nat) : Int) W)) := by
  have hz : ((N : Int) == 0) = false := by simp; omega
  have hz2 : ¬ (N : Int) = 0 := by omega
  have hw : IntKind.i64.wrap ((top : Int) + (k : Int)) = (top : Int) + (k : Int) := by rw [IntKind.wrap_i64]; omega
  go_enter Tryd.func96, Tryd.ntmps96
  go_wp2_with fail
  go_quiet (fail)
  go_wp2_with fail
  go_ret
  exact ⟨_, rfl, int_eq (by simp), fr_drewN _ _ _⟩
theorem DAt_is {W : World} {B q N top : Nat} {A : Option Addr} {vs l : List Int} (h : IsDeq W B q A N top vs l) (hN : 0 < N) (hsm : N ≤ 100000000) (ht : top ≤ N) {k : Nat} (hk : k ≤ 100000000) :
    Calls Tryd.prog 96 #[.pointer (some ⟨q, 0, none⟩), .int .i64 (k : Int)] W (Rets (IntPost (((top + k) % N : Nat) : Int) W)) := DAt_c h.c0 h.c1 hN hsm ht hk
end Go.Proofs.YtdihpobegoihkaaDoor
namespace Go.Proofs.YtdihpobegoihkaaDoor
set_option linter.all false
open Go.RowKit Go.Shelf
attribute [local go_sem] Oper.semAt_some
set_option maxRecDepth 100000

abbrev encI : Int → Array Value := fun x => #[.int .i64 x]
def deqK (c B q : Nat) (A : Option Addr) (N top : Nat) (vs l : List Int) (W : World) : Prop := Box W c 130 (.pointer (some ⟨q, 0, none⟩)) ∧ IsDeq W B q A N top vs l
theorem deqK.grow {c B q N top C : Nat} {A : Option Addr} {vs l : List Int} (W W' : World) (h : deqK c B q A N top vs l W) (hG : Grow C W W') : deqK c B q A N top vs l W' := ⟨h.1.grow hG, h.2.grow hG⟩
theorem yield_any {α : Type} {l : Nat} {pre : List α} {x : α} {J Jx : List α → World → Prop} {W1 W2 : World} {e : Ending} (h : RdPost l pre x J Jx W1 e W2) :
    ∃ b, e = .returned (.bool b) ∧ ND (l + 1) W1 W2 ∧ ((b = true ∧ J (pre ++ [x]) W2) ∨ (b = false ∧ Jx (pre ++ [x]) W2)) := by
  obtain ⟨h1, ⟨rfl, h2⟩ | ⟨rfl, h2⟩⟩ := h
  · exact ⟨true, rfl, h1, .inl ⟨rfl, h2⟩⟩
  · exact ⟨false, rfl, h1, .inr ⟨rfl, h2⟩⟩
set_option maxHeartbeats 2000000 in
theorem Each1_is (c B q : Nat) (A : Option Addr) (N top : Nat) (vs l : List Int) (hN : N ≤ 100000000) : IterSpec Tryd.prog 123 #[.pointer (some ⟨c, 0, none⟩)] encI l (deqK c B q A N top vs l) := by
  intro y J Jx W hl hJK hJg hJxg h0 hY
  refine callsIn_of_wp Tryd.func123 rfl trivial ?_
  simp only [Tryd.ntmps123, List.size_toArray, List.length_cons, List.length_nil, Nat.reduceAdd, Nat.reduceSub, Array.replicate_succ, Array.replicate_zero, List.push_toArray, List.append_toArray, List.nil_append, List.cons_append]
  gi_wp2_with fail
  gi_loopw [3] (fun v wr => ∃ k : Nat, k ≤ l.length ∧ v = .int .i64 k ∧ J (l.take k) wr ∧ ND (y + 1) W wr) (fun v _ => l.length - (intOf v).toNat)
  case atStart => exact ⟨0, by omega, rfl, h0, ND.refl _ _⟩
  case round =>
    obtain ⟨k, hk, rfl, hJs, hnd⟩ := hrel
    obtain ⟨hbox, hd⟩ := hJK _ _ hJs
    have hbc := hbox.cell
    have HL := Lib.hid (fun w' (f : Fr0 wr w') => DLen_is (hd.fr0 f))
    have hgr0 : ∀ w', Fr0 wr w' → Grow W.heap.size wr w' := fun w' f => Fr0.grow f _
    by_cases hlt : k < l.length
    · have hlt' : (k : Int) < (l.length : Int) := by omega
      rcases hd.ring with ⟨_, _, _, _, e⟩ | ⟨rb, rfl, hB, hr, hvl, htop, hln, hat⟩
      · rw [e] at hlt; cases hlt
      have HA := Lib.hid (fun w' (f : Fr0 wr w') => DAt_is (hd.fr0 f) (by omega) hN (by omega) (k := k) (by omega))
      have c0 := hd.c0
      have hi : (top + k) % N < N := Nat.mod_lt _ (by omega)
      have d1 := hr.cell (i := (top + k) % N) (by omega)
      rw [hat k hlt] at d1
      have htk := take_succ_I l k hlt
      generalize hx : l.getD k 0 = x at d1 htk
      generalize hix : (top + k) % N = ix at d1 hi HA
      have hi' : (ix : Int) < (N : Int) := by omega
      have hgr : ∀ w', Fr0 wr w' → Grow W.heap.size wr w' := fun w' f => Fr0.grow f _
      have hpre : l.take k ++ [x] <+: l := by rw [← htk]; exact List.take_prefix _ _
      have HTK := Lib.hid htk
      clear htk
      gi_wp2_with fail
      gi_region_with (first
        | (gi_at_call 97; refine (callsIn_wide.2 (HL.out _ (fr_drew _ _))).mono ?_; rintro e w' ⟨rfl, rfl⟩)
        | (gi_at_call 96; refine (callsIn_wide.2 (HA.out _ (fr_drew _ _))).mono ?_; rintro e w3 ⟨_, rfl, rfl, hf3⟩; have hF3 : Fr0 wr w3 := (fr_drew _ _).trans0 hf3; have c0 := hF3.cell c0 (fun x => x); have d1 := hF3.cell d1 (fun x => x); have hbc := hF3.cell hbc (fun x => x); obtain ⟨fn, tmps, assign, body, hy, hR⟩ := hY (l.take k) x w3 (hJg _ _ _ hJs (hgr _ hF3)) hpre)
        | (refine hR.mono ?_; rintro e W3 hyy; obtain ⟨b, rfl, hyn, hyc⟩ := yield_any hyy))
      all_goals
        have hnd3 : ND (y + 1) W W3 := (hnd.trans (hF3.ND _)).trans hyn
        cases b with
        | true =>
          have hJ3 : J (l.take k ++ [x]) W3 := by
            rcases hyc with ⟨_, h⟩ | ⟨e, _⟩
            · exact h
            · cases e
          gi_wp2
          go_roundw
          case rel => exact ⟨k + 1, by omega, by go_num, by rw [HTK.out]; exact hJ3, hnd3⟩
          case measure => simp [intOf]; omega
        | false =>
          have hJ3 : Jx (l.take k ++ [x]) W3 := by
            rcases hyc with ⟨e, _⟩ | ⟨_, h⟩
            · cases e
            · exact h
          gi_wp2
          go_end0
          exact ⟨⟨_, rfl⟩, hnd3, .inr ⟨_, hpre, hJ3⟩⟩
    · have hke : k = l.length := by omega
      subst hke
      gi_wp2_with fail
      gi_quiet (first | (gi_at_call 97; exact CallsIn.quiet_of_same (callsIn_wide.2 ((HL.out _ (fr_drewN _ _ _)).mono (fun _ _ h => ⟨h.1, h.2.symm⟩)))))
      gi_wp2_with fail
      go_end0
      exact ⟨⟨_, rfl⟩, hnd.trans ((fr_drewN (fun _ => False) _ _).ND _), .inl (by rw [List.take_of_length_le (Nat.le_refl _)] at hJs; exact hJg _ _ _ hJs (hgr0 _ (fr_drewN _ _ _)))⟩
theorem Each_is (p : Option Addr) (w : World) : Calls Tryd.prog 115 #[.pointer p] w fun e w' =>
    e = .returned (.func (.func 123) #[] #[.pointer (some ⟨w.heap.size, 0, none⟩)]) ∧ w.alloc (.cells #[.pointer p] 130) = w' := by
  go_enter Tryd.func115, Tryd.ntmps115
  go_wp2_with fail
  go_ret
  exact ⟨rfl, rfl⟩
set_option maxHeartbeats 1000000 in
theorem DList_is {w : World} {B q N top : Nat} {A : Option Addr} {vs l : List Int} (h : IsDeq w B q A N top vs l) (hN : N ≤ 100000000) (hlen : l.length ≤ 100000000) : Calls Tryd.prog 106 #[.pointer (some ⟨q, 0, none⟩)] w (Rets (IListPost w l)) := by
  obtain ⟨i0, hi, hz0, hz1, hz2⟩ := info_parts info_int
  refine (callsIn_wide (n := 0)).1 (callsIn_of_wp_marks Tryd.func106 rfl trivial ?_)
  simp only [Tryd.ntmps106, List.size_toArray, List.length_cons, List.length_nil, Nat.reduceAdd, Nat.reduceSub, Array.replicate_succ, Array.replicate_zero, List.push_toArray, List.append_toArray, List.nil_append, List.cons_append]
  gi_wp2_with (gi_at_call 115; refine (callsIn_wide.2 (Each_is _ _)).mono ?_; rintro e w' ⟨rfl, rfl⟩)
  have hb2 : IsDeq ((w.alloc (.cells #[.slice none 0 0] 37)).alloc (.cells #[.pointer (some ⟨q, 0, none⟩)] 130)) B q A N top vs l := (h.fr0 (fr_alloc _ _ _)).fr0 (fr_alloc _ _ _)
  have hbo : Box ((w.alloc (.cells #[.slice none 0 0] 37)).alloc (.cells #[.pointer (some ⟨q, 0, none⟩)] 130)) w.heap.size 37 (.slice none 0 0) := (Box.new w _ _).fr0 (fr_alloc _ _ _)
  have hbc : Box ((w.alloc (.cells #[.slice none 0 0] 37)).alloc (.cells #[.pointer (some ⟨q, 0, none⟩)] 130)) (w.heap.size + 1) 130 (.pointer (some ⟨q, 0, none⟩)) := by
    have := Box.new (w.alloc (.cells #[.slice none 0 0] 37)) 130 (.pointer (some ⟨q, 0, none⟩)); rwa [World.size_alloc] at this
  have hf0 : Fr0 w ((w.alloc (.cells #[.slice none 0 0] 37)).alloc (.cells #[.pointer (some ⟨q, 0, none⟩)] 130)) := (fr_alloc _ _ _).alloc _
  have hgw := h.lt
  have hrw : ∀ rb, A = some ⟨rb, 0, none⟩ → rb < w.heap.size := by
    intro rb e
    rcases h.ring with ⟨e2, _⟩ | ⟨rb2, e2, _, hr, _⟩
    · rw [e2] at e; cases e
    · rw [e2] at e; cases e; exact heap_lt hr
  refine range_law (gf := 123) (lb := #[.pointer (some ⟨w.heap.size + 1, 0, none⟩)]) rfl (enters_of Tryd.func123 (by kernel_rfl) rfl)
    (Each1_is (w.heap.size + 1) B q A N top vs l hN) (fun _ => rfl)
    (ColI w (deqK (w.heap.size + 1) B q A N top vs l) w.heap.size 37 3 (fun x : Int => .int .i64 x))
    (fun _ _ _ => False) (fun pre W hI => hI.2.1) (ColI.grow (by simp; omega) deqK.grow) (fun _ _ _ _ hf _ => hf) ⟨hf0, ⟨hbc, hb2⟩, _, hbo, own_nil _ _ _ _⟩ ?round ?done ?stop
  case round =>
    intro y pre x W hl hI hpre
    have hpl : pre.length < l.length := by have := hpre.length_le; simp at this; omega
    gi_wp2
    refine ⟨ND.refl _ _, fun W2 hG => ?_⟩
    obtain ⟨k1, k2, v, k4, k5⟩ := ColI.grow (by simp; omega) deqK.grow _ _ _ hI hG
    have k4c := k4.cell
    have kz := k1.size
    clear hI
    gi_wp2_with (gi_at_builtin; refine wpListIn_append_own _ rfl _ _ 37 rfl w.heap.size 3 i0 (.int .i64 0) 1 8 Tryd.underlying37 hi hz0 hz1 hz2 rfl (by decide) _ _ _ rfl (k5.alloc _) ⟨W2.heap.size, 0, none⟩ 1 1 [.int .i64 x] rfl rfl (cell_one_new _ _ _) (by simp [Value.oneCell']) (by unfold maxLen; omega) (by omega) (by simp; omega) ?_; intro v' w1 hown' hgrow _; obtain ⟨g', cap', rfl⟩ := ownsRow_succ hown'; obtain ⟨c1, c2, c3, c4⟩ := collect k4 (by decide) k5 hown' hgrow; have c1c := c1.cell; have c1f := c1.frozen)
    have hno : ∀ j, j < w.heap.size → ¬ (j = w.heap.size ∨ v.ownBlock = some j) := fun j hj h => h.elim (fun e => by omega) (fun e => own_old k5 hj e)
    refine ⟨c4.ND _, Fr.trans k1 c4 hno, ⟨k2.1.fr c4 ?_, k2.2.fr c4 (hno _ hgw) (fun rb e => hno _ (hrw rb e))⟩, _, c2, by simpa using c3⟩
    rintro (e | e)
    · omega
    · exact own_ne k5 k2.1 (by decide) e
  case done =>
    intro D W hD hI hk
    obtain ⟨k1, k2, v, k4, k5⟩ := hI
    have k4c := k4.cell
    gi_wp2
    refine leave1 rfl hk fun W' hG => ⟨_, rfl, Fr.andGrow k1 hG (by simp at hD; omega), ?_⟩
    exact own_grow k5 hG
  case stop => intro D c pre W hD _ hf; exact hf.elim
end Go.Proofs.YtdihpobegoihkaaDoor
namespace Go.Proofs.YtdihpobegoihkaaDoor
set_option linter.all false
open Go.RowKit
set_option maxRecDepth 100000

theorem fr_setRow {w : World} {g t : Nat} {cs : Array Value} {f : Nat × Nat} (h : w.heap[g]? = some (.cells cs t f)) (cs' : Array Value) : Fr (fun k => k = g) w (w.setRow g cs') := by
  refine ⟨rfl, rfl, rfl, by simp [World.setRow], fun k hk hn => setRow_other w g k cs' hn, fun k o ho hd => ?_⟩
  by_cases e : k = g
  · subst e; rw [h] at ho; cases ho; cases hd
  · rw [setRow_other w g k cs' e]; exact ho
section
variable {ops : Array Oper} {rest : List Oper} {o : Oper} {a : Act} {w : World} {Q : Exit → Act → World → Prop}
theorem wpList_copy_ints (hgd : o.guard = none) (d s : Operand) (ho : o.op = .call { callee := .builtin .copy, args := #[d, s], argTypes := #[37, 37] })
    {g n c : Nat} {A : Option Addr} {zs ys : List Int} (hd : a.eval d = .slice (some ⟨g, 0, none⟩) n n) (hs : a.eval s = .slice A ys.length c) (hg : IntRow w g zs) (hzl : zs.length = n) (hle : ys.length ≤ n) (hy : IntsAt w A ys)
    (h : ∀ w', IntRow w' g (ys ++ zs.drop ys.length) → Fr (fun k => k = g) w w' → wpList Tryd.prog ops Q rest (a.put o.dst (goInt ys.length)) w') : wpList Tryd.prog ops Q (o :: rest) a w := by
  have hsz : (Tryd.prog.info? 3).map (·.size) = some 1 := by
    have := info_int
    cases hh : Tryd.prog.info? 3 with
    | none => rw [hh] at this; cases this
    | some i => rw [hh] at this; simp at this ⊢; exact this.2.1
  by_cases h0 : ys = []
  · subst h0
    exact wpList_copy_nothing hgd d s _ _ ho 3 Tryd.underlying37 hsz _ _ _ _ _ _ hd hs (by simp) (h w (by simpa using hg) (Fr.refl _ _))
  · obtain ⟨b, o', rfl⟩ : ∃ b o, A = some ⟨b, o, none⟩ := by
      rcases hy.2 with e | ⟨b, o, e, _⟩
      · exact absurd e h0
      · exact ⟨b, o, e⟩
    have e : (intsI ys).length = ys.length := by simp [intsI]
    have e2 : ((intsI zs).toArray.toList.take 0 ++ (intsI ys ++ (intsI zs).toArray.toList.drop (0 + (intsI ys).length))).toArray = (intsI (ys ++ zs.drop ys.length)).toArray := by
      simp [intsI]
    refine wpList_copy_own hgd d s _ _ ho 3 Tryd.underlying37 hsz g 0 n n ⟨b, o', none⟩ ys.length c hd hs (intsI zs).toArray 3 hg (intsI ys) (by rw [e]; exact (Nat.min_eq_left hle).symm) (ints_news hy) (by simp [intsI]; omega) (intsI_one ys) ?_
    rw [e2, e]
    exact h _ (setRow_heap w g _ _ _ _ hg) (fr_setRow hg _)
end
theorem make_ints2 (c : Nat) (h1 : c ≤ 1000000000) (w : World) : (Instr.makeSlice 37 (.int .i64 c) (.int .i64 c)).run Tryd.prog w =
    .ok (.slice (some ⟨w.heap.size, 0, none⟩) c c) (w.alloc (.cells (intsI (List.replicate c 0)).toArray 3)) := by
  obtain ⟨i0, hi, hz0, hz1, hz2⟩ := info_parts info_int2
  rw [run_make (P := Tryd.prog) w 37 3 i0 (.int .i64 0) Tryd.underlying37 hi hz0 .i64 .i64 c c (by omega) (Int.le_refl _) (by rw [hz2]; omega) (by omega), hz1]
  have : madeCells (Value.int .i64 0).cells ((c : Int).toNat * 1) = (intsI (List.replicate c 0)).toArray := by
    apply Array.ext'
    simp only [madeCells, intsI, Value.cells, Nat.mul_one]
    apply List.ext_getElem
    · simp
    · intro i h1 h2
      simp [Nat.mod_one]
  rw [this]
  simp
/-- The blocks of a ring. -/
def DqS (q : Nat) (A : Option Addr) (k : Nat) : Prop := k = q ∨ A = some ⟨k, 0, none⟩
theorem IsDeq.ring_lt {W : World} {B q N top : Nat} {A : Option Addr} {vs l : List Int} (h : IsDeq W B q A N top vs l) {k : Nat} (e : A = some ⟨k, 0, none⟩) : B ≤ k ∧ k < W.heap.size := by
  rcases h.ring with ⟨e2, _⟩ | ⟨rb2, e2, hB, hr, _⟩
  · rw [e2] at e; cases e
  · rw [e2] at e; cases e; exact ⟨hB, heap_lt hr⟩
theorem IsDeq.len_le {W : World} {B q N top : Nat} {A : Option Addr} {vs l : List Int} (h : IsDeq W B q A N top vs l) : l.length ≤ N ∧ top ≤ N := by
  rcases h.ring with ⟨_, rfl, rfl, _, rfl⟩ | ⟨_, _, _, _, _, h1, h2, _⟩
  · exact ⟨Nat.le_refl _, Nat.le_refl _⟩
  · exact ⟨h2, by omega⟩
def GrowPost (W : World) (B q : Nat) (A : Option Addr) (N : Nat) (l : List Int) (v : Value) (w' : World) : Prop :=
  v = .tuple #[] ∧ Fr (fun k => k = q) W w' ∧ ∃ A' N' top' vs', IsDeq w' B q A' N' top' vs' l ∧ l.length < N' ∧ N' ≤ max N (2 * l.length + 4) ∧ (A' = A ∨ ∃ k, A' = some ⟨k, 0, none⟩ ∧ W.heap.size ≤ k)
set_option maxHeartbeats 4000000 in
theorem DGrow_is {W : World} {B q N top : Nat} {A : Option Addr} {vs l : List Int} (h : IsDeq W B q A N top vs l) (hB : B ≤ W.heap.size) (hN : N ≤ 10000000) :
    Calls Tryd.prog 95 #[.pointer (some ⟨q, 0, none⟩)] W (Rets (GrowPost W B q A N l)) := by
  have c0 := h.c0
  have c2 := h.c2
  obtain ⟨hln, htn⟩ := h.len_le
  have HD := Lib.hid h
  clear h
  by_cases hlt : l.length < N
  · have hlt' : (l.length : Int) < (N : Int) := by omega
    go_enter Tryd.func95, Tryd.ntmps95
    go_wp2_with fail
    go_quiet (fail)
    go_wp2_with fail
    refine bodyPost_ret (results_none rfl _ _ _) rfl ?_
    exact ⟨_, rfl, rfl, fr_drewN _ _ _, A, N, top, vs, HD.out.fr0 (fr_drewN _ _ _), hlt, by omega, .inl rfl⟩
  · have hNe : N = l.length := by omega
    subst hNe
    have hw2 : IntKind.i64.wrap (2 * (l.length : Int)) = 2 * (l.length : Int) := by rw [IntKind.wrap_i64]; omega
    obtain ⟨M, z, hz, hM, hd⟩ : ∃ (M : Nat) (z : Int), z = (M : Int) ∧ M = max 4 (2 * l.length) ∧ ((2 * (l.length : Int) ≤ 4 ∧ z = 4) ∨ (4 < 2 * (l.length : Int) ∧ z = 2 * (l.length : Int))) := ⟨max 4 (2 * l.length), _, rfl, rfl, by omega⟩
    have hmk : ∀ w, (Instr.makeSlice 37 (.int .i64 z) (.int .i64 z)).run Tryd.prog w = .ok (.slice (some ⟨w.heap.size, 0, none⟩) M M) (w.alloc (.cells (intsI (List.replicate M 0)).toArray 3)) := fun w => by rw [hz]; exact make_ints2 M (by omega) w
    have HM := Lib.hid hM
    clear hM hz
    rcases hd with ⟨hd, rfl⟩ | ⟨hd, rfl⟩
    all_goals
      go_enter Tryd.func95, Tryd.ntmps95
      go_wp2_with fail
      go_quiet (fail)
      go_wp2_with fail
      have hF1 : Fr0 W ((W.drewN nq).alloc (.cells (intsI (List.replicate M 0)).toArray 3)) := (fr_drewN _ _ _).alloc _
      have hr1 : IntRow ((W.drewN nq).alloc (.cells (intsI (List.replicate M 0)).toArray 3)) W.heap.size (List.replicate M 0) := World.alloc_heap_new (W.drewN nq) _
      refine (DList_is (HD.out.fr0 hF1) (by omega) (by omega)).mono ?_
      rintro e w2 ⟨v2, rfl, hf2, ho2⟩
      obtain ⟨A2, c2', rfl⟩ := own_form ho2
      have hI2 := own_intsI ho2 (by omega)
      have hr2 : IntRow w2 W.heap.size (List.replicate M 0) := hf2.heap' hr1
      have hF2 : Fr0 W w2 := hF1.trans0 hf2
      have hql := HD.out.lt
      have hqb := hF2.heap' HD.out.blk
      have hzl : (List.replicate M (0 : Int)).length = M := List.length_replicate
      have hle : l.length ≤ M := by have := HM.out; omega
      have hqne : ¬ q = W.heap.size := by omega
      clear ho2
      go_wp2_with (refine wpList_copy_ints (g := W.heap.size) (n := M) (c := c2') (A := A2) (zs := List.replicate M 0) (ys := l) rfl (.tmp 20) (.tmp 22) rfl rfl rfl hr2 hzl hle hI2 ?_; intro w3 hr3 hf3; have hqb3 := hf3.heap hqb hqne; have e0 : w3.cell? ⟨q, 0, none⟩ = some (.slice A l.length l.length) := (by simp [World.cell?, hqb3]); have e1 : w3.cell? ⟨q, 1, none⟩ = some (.int .i64 top) := (by simp [World.cell?, hqb3]); have z0 : w3.frozen? ⟨q, 0, none⟩ = false := (by simp [World.frozen?, hqb3]); have z1 : w3.frozen? ⟨q, 1, none⟩ = false := (by simp [World.frozen?, hqb3]))
      obtain ⟨w9, hw9⟩ : ∃ w9, (w3.setCell ⟨q, 0, none⟩ (.slice (some ⟨W.heap.size, 0, none⟩) M M)).setCell ⟨q, 1, none⟩ (.int .i64 0) = w9 := ⟨_, rfl⟩
      rw [hw9]
      have hF3' : Fr (fun k => k = q) W w3 := Fr.trans (S := fun k => k = q) (hF2.mono (fun _ _ x => x.elim)) hf3 (fun j hj e => by omega)
      have hF9 : Fr (fun k => k = q) w3 w9 := hw9 ▸ (fr_setCell (S := fun b => b = q) w3 ⟨q, 0, none⟩ (.slice (some ⟨W.heap.size, 0, none⟩) M M) (fun _ => rfl)).setCell ⟨q, 1, none⟩ (.int .i64 0) (fun _ => rfl)
      have hh := heap_setCell_same (o := 1) (heap_setCell_same (o := 0) hqb3 (.slice (some ⟨W.heap.size, 0, none⟩) M M)) (.int .i64 0)
      rw [hw9] at hh
      have hr9 := hF9.heap hr3 (fun e => hqne e.symm)
      have hlM : l.length < M := by have := HM.out; omega
      go_end0
      refine ⟨_, rfl, rfl, hF3'.trans hF9 (fun _ _ x => x), _, M, 0, _, ⟨hh, .inr ⟨W.heap.size, rfl, hB, hr9, by simp; omega, by omega, by omega, fun j hj => ?_⟩⟩, hlM, by have := HM.out; omega, .inr ⟨_, rfl, Nat.le_refl _⟩⟩
      rw [Nat.zero_add, Nat.mod_eq_of_lt (by omega), List.getD_eq_getElem?_getD, List.getElem?_append_left hj, List.getD_eq_getElem?_getD]
end Go.Proofs.YtdihpobegoihkaaDoor
namespace Go.Proofs.YtdihpobegoihkaaDoor
set_option linter.all false
open Go.RowKit
set_option maxRecDepth 100000

theorem mod_apart {t a b N : Nat} (hab : a < b) (hb : b < N) : (t + a) % N ≠ (t + b) % N := by
  intro e
  have h1 := Nat.div_add_mod (t + a) N
  have h2 := Nat.div_add_mod (t + b) N
  rw [e] at h1
  have h3 : N * ((t + b) / N) = N * ((t + a) / N) + (b - a) := by omega
  have h4 : (t + a) / N ≤ (t + b) / N := Nat.div_le_div_right (by omega)
  rcases Nat.lt_or_ge ((t + a) / N) ((t + b) / N) with h | h
  · have : N * ((t + a) / N + 1) ≤ N * ((t + b) / N) := Nat.mul_le_mul_left _ h
    rw [Nat.mul_add, Nat.mul_one] at this
    omega
  · have : (t + a) / N = (t + b) / N := by omega
    rw [this] at h3
    omega
def PushPost (W : World) (B q : Nat) (A : Option Addr) (N : Nat) (l : List Int) (v : Value) (w' : World) : Prop :=
  v = .tuple #[] ∧ Fr (DqS q A) W w' ∧ ∃ A' N' top' vs', IsDeq w' B q A' N' top' vs' l ∧ N' ≤ max N (2 * l.length + 4) ∧ (A' = A ∨ ∃ k, A' = some ⟨k, 0, none⟩ ∧ W.heap.size ≤ k)
set_option maxHeartbeats 4000000 in
theorem DPush_is {W : World} {B q N top : Nat} {A : Option Addr} {vs l : List Int} (h : IsDeq W B q A N top vs l) (hB : B ≤ W.heap.size) (hN : N ≤ 10000000) (x : Int) :
    Calls Tryd.prog 82 #[.pointer (some ⟨q, 0, none⟩), .int .i64 x] W (Rets (PushPost W B q A N (l ++ [x]))) := by
  obtain ⟨hln, htn⟩ := h.len_le
  have HG := Lib.hid (DGrow_is h hB hN)
  have HRL := Lib.hid (fun k e => h.ring_lt (k := k) e)
  have hql := h.lt
  clear h
  go_enter Tryd.func82, Tryd.ntmps82
  go_wp2_with (go_at_call 95; refine (HG.out).mono ?_; rintro e w1 ⟨_, rfl, rfl, hf1, A1, N1, t1, vs1, hD1, hlN, hN1, hA1⟩)
  rcases hD1.ring with ⟨_, e, _⟩ | ⟨rb, rfl, hBr, hr, hvl, htop, hln1, hat⟩
  · omega
  have c0 := hD1.c0
  have c2 := hD1.c2
  have hN1' : N1 ≤ 100000000 := by omega
  have HAT := Lib.hid (fun w' (f : Fr0 w1 w') => DAt_is (hD1.fr0 f) (by omega) hN1' (by omega) (k := l.length) (by omega))
  have hix : (t1 + l.length) % N1 < N1 := Nat.mod_lt _ (by omega)
  generalize hi : (t1 + l.length) % N1 = ix at hix HAT
  have hix' : (ix : Int) < (N1 : Int) := by omega
  have d0 := hr.cell (i := ix) (by omega)
  have f0 := hr.frozen ix
  have hqr : q ≠ rb := by
    intro e
    have := hD1.blk
    unfold IntRow at hr
    rw [e, hr] at this; injection this with this; injection this with _ this _; exact absurd this (by decide)
  have hw2 : IntKind.i64.wrap ((l.length : Int) + 1) = (l.length : Int) + 1 := by rw [IntKind.wrap_i64]; omega
  have fq := hD1.fz 2
  have HD1 := Lib.hid hD1
  have HI := Lib.hid hi
  have HAT2 := Lib.hid hat
  have HR := Lib.hid hr
  have HKS := Lib.hid (show ∀ w', Fr0 w1 w' → (w'.cell? ⟨q, 0, none⟩ = some (.slice (some ⟨rb, 0, none⟩) N1 N1) ∧ w'.cell? ⟨q, 2, none⟩ = some (.int .i64 l.length)) from fun w' f => ⟨f.cell c0 (fun x => x), f.cell c2 (fun x => x)⟩)
  have HKT := Lib.hid (show ∀ w' u, Fr0 w1 w' → ((w'.setCell ⟨rb, ix, none⟩ u).cell? ⟨q, 0, none⟩ = some (.slice (some ⟨rb, 0, none⟩) N1 N1) ∧ (w'.setCell ⟨rb, ix, none⟩ u).cell? ⟨q, 2, none⟩ = some (.int .i64 l.length)) from fun w' u f => by
    have g : Fr (fun k => k = rb) w' (w'.setCell ⟨rb, ix, none⟩ u) := fr_setCell _ _ _ (fun _ => rfl)
    exact ⟨g.cell (f.cell c0 (fun x => x)) hqr, g.cell (f.cell c2 (fun x => x)) hqr⟩)
  clear hi hr hat hD1 HG c0 c2
  go_region_held_law (fun w' => w'.cell? ⟨q, 0, none⟩ = some (.slice (some ⟨rb, 0, none⟩) N1 N1) ∧ w'.cell? ⟨q, 2, none⟩ = some (.int .i64 l.length))
    (first | exact HKS.out _ (fr_drew _ _) | exact HKS.out _ hF2 | exact HKT.out _ _ hF2)
    (first
      | (go_at_call 96; refine (HAT.out _ (fr_drew _ _)).mono ?_; rintro e w2 ⟨_, rfl, rfl, hf2⟩; have hF2 : Fr0 w1 w2 := (fr_drew _ _).trans0 hf2; have d0 := hF2.cell d0 (fun x => x); have f0 : w2.frozen? ⟨rb, ix, none⟩ = false := IntRow.frozen (hF2.heap' HR.out) ix))
  obtain ⟨w3, hw3⟩ : ∃ w3, w2.setCell ⟨rb, ix, none⟩ (.int .i64 x) = w3 := ⟨_, rfl⟩
  have hf3 : Fr (fun k => k = rb) w2 w3 := hw3 ▸ fr_setCell _ _ _ (fun _ => rfl)
  have hb3 := hf3.heap (hF2.heap' HD1.out.blk) hqr
  have hr3 : IntRow w3 rb (vs1.set ix x) := hw3 ▸ IntRow.set (hF2.heap' HR.out) ix x
  have c2 : w3.cell? ⟨q, 2, none⟩ = some (.int .i64 l.length) := by simp [World.cell?, hb3]
  have fq : w3.frozen? ⟨q, 2, none⟩ = false := by simp [World.frozen?, hb3]
  rw [hw3]
  clear hw3
  go_wp2_with fail
  obtain ⟨w9, hw9⟩ : ∃ w9, w3.setCell ⟨q, 2, none⟩ (.int .i64 ((l.length : Int) + 1)) = w9 := ⟨_, rfl⟩
  rw [hw9]
  have hf9 : Fr (fun k => k = q) w3 w9 := hw9 ▸ fr_setCell _ _ _ (fun _ => rfl)
  have hh := heap_setCell_same (o := 2) hb3 (.int .i64 ((l.length : Int) + 1))
  rw [hw9] at hh
  have hr9 := hf9.heap hr3 (fun e => hqr e.symm)
  go_end0
  have hFa : Fr (DqS q A) W w2 := (hf1.trans0 hF2).mono (fun _ _ x => .inl x)
  have hrbs : rb < W.heap.size → DqS q A rb := by
    intro hlt
    rcases hA1 with e | ⟨k, e, hk⟩
    · exact .inr e.symm
    · cases e; omega
  refine ⟨_, rfl, rfl, (hFa.trans hf3 (fun j hj e => e ▸ hrbs (e ▸ hj))).trans hf9 (fun j _ e => .inl e), some ⟨rb, 0, none⟩, N1, t1, vs1.set ix x, ⟨?_, .inr ⟨rb, rfl, hBr, hr9, by rw [List.length_set]; exact hvl, htop, by rw [List.length_append]; exact hlN, fun j hj => ?_⟩⟩, by rw [List.length_append]; omega, hA1⟩
  · rw [hh]; simp
  · rw [List.length_append, List.length_singleton] at hj
    by_cases e : j = l.length
    · subst e
      rw [HI.out, List.getD_eq_getElem?_getD, List.getElem?_set_self (by omega), List.getD_eq_getElem?_getD, List.getElem?_append_right (Nat.le_refl _), Nat.sub_self]
      rfl
    · have hne := mod_apart (t := t1) (a := j) (b := l.length) (N := N1) (by omega) (by omega)
      rw [HI.out] at hne
      rw [List.getD_eq_getElem?_getD, List.getElem?_set_ne (fun h => hne h.symm), ← List.getD_eq_getElem?_getD, HAT2.out j (by omega), List.getD_eq_getElem?_getD, List.getD_eq_getElem?_getD, List.getElem?_append_left (by omega)]
def StealPost (W : World) (B q : Nat) (A : Option Addr) (N : Nat) (l : List Int) (v : Value) (w' : World) : Prop :=
  Fr (DqS q A) W w' ∧ ((l = [] ∧ v = .tuple #[.int .i64 0, .bool false] ∧ ∃ top vs, IsDeq w' B q A N top vs []) ∨ (∃ x r, l = x :: r ∧ v = .tuple #[.int .i64 x, .bool true] ∧ ∃ top' vs', IsDeq w' B q A N top' vs' r))
/-- The thing of the top place is taken; the top stays yet. -/
def TakePost (W : World) (q rb N top m : Nat) (vs : List Int) (v : Value) (w' : World) : Prop :=
  v = .int .i64 (vs.getD top 0) ∧ Fr (fun k => k = q ∨ k = rb) W w' ∧
      w'.heap[q]? = some (.cells #[.slice (some ⟨rb, 0, none⟩) N N, .int .i64 (top : Int), .int .i64 ((m : Nat) : Int)] 116 (0, 0)) ∧ IntRow w' rb (vs.set top 0)
set_option maxHeartbeats 4000000 in
theorem DTake_is {W : World} {q N top rb : Nat} {vs l : List Int} (hb : W.heap[q]? = some (.cells #[.slice (some ⟨rb, 0, none⟩) N N, .int .i64 (top : Int), .int .i64 ((l.length : Nat) : Int)] 116 (0, 0)))
    (hr : IntRow W rb vs) (hvl : vs.length = N) (htop : top < N) (hl : 0 < l.length) (hN : N ≤ 100000000) (hln : l.length ≤ N) :
    Calls Tryd.prog 98 #[.pointer (some ⟨q, 0, none⟩), .int .i64 0] W (Rets (TakePost W q rb N top (l.length - 1) vs)) := by
  have c0 : W.cell? ⟨q, 0, none⟩ = some (.slice (some ⟨rb, 0, none⟩) N N) := by simp [World.cell?, hb]
  have c1 : W.cell? ⟨q, 1, none⟩ = some (.int .i64 top) := by simp [World.cell?, hb]
  have HAT := Lib.hid (DAt_c c0 c1 (by omega) hN (by omega) (k := 0) (by omega))
  rw [Nat.add_zero, Nat.mod_eq_of_lt htop] at HAT
  have hqr : q ≠ rb := by
    intro e
    unfold IntRow at hr
    rw [e, hr] at hb; injection hb with hb; injection hb with _ hb _; exact absurd hb (by decide)
  have htop' : (top : Int) < (N : Int) := by omega
  have hw2 : IntKind.i64.wrap ((l.length : Int) - 1) = (l.length : Int) - 1 := by rw [IntKind.wrap_i64]; omega
  have HB := Lib.hid hb
  have HR := Lib.hid hr
  obtain ⟨y, hy⟩ : ∃ y, vs.getD top 0 = y := ⟨_, rfl⟩
  have HY := Lib.hid hy
  clear hb hr c0 c1 hy
  go_enter Tryd.func98, Tryd.ntmps98
  go_wp2_with (go_at_call 96; refine (HAT.out).mono ?_; rintro e w1 ⟨_, rfl, rfl, hf1⟩; have hb1 := hf1.heap' HB.out; have hr1 : IntRow w1 rb vs := hf1.heap' HR.out; have c0 : w1.cell? ⟨q, 0, none⟩ = some (.slice (some ⟨rb, 0, none⟩) N N) := (by simp [World.cell?, hb1]); have c2 : w1.cell? ⟨q, 2, none⟩ = some (.int .i64 l.length) := (by simp [World.cell?, hb1]); have d0 := hr1.cell (i := top) (by omega); rw [HY.out] at d0; have f0 := hr1.frozen top; have fq : w1.frozen? ⟨q, 2, none⟩ = false := (by simp [World.frozen?, hb1]); clear hb1 hr1)
  go_ret
  obtain ⟨w2, hw2'⟩ : ∃ w2, w1.setCell ⟨rb, top, none⟩ (.int .i64 0) = w2 := ⟨_, rfl⟩
  have hf2 : Fr (fun k => k = rb) w1 w2 := hw2' ▸ fr_setCell _ _ _ (fun _ => rfl)
  have hb2 := hf2.heap (hf1.heap' HB.out) hqr
  have hr2 : IntRow w2 rb (vs.set top 0) := hw2' ▸ IntRow.set (hf1.heap' HR.out) top 0
  rw [hw2']
  have hf3 : Fr (fun k => k = q) w2 (w2.setCell ⟨q, 2, none⟩ (.int .i64 ((l.length : Int) - 1))) := fr_setCell _ _ _ (fun _ => rfl)
  have hh := heap_setCell_same (o := 2) hb2 (.int .i64 ((l.length : Int) - 1))
  have e1 : (l.length : Int) - 1 = ((l.length - 1 : Nat) : Int) := by omega
  refine ⟨_, rfl, int_eq HY.out.symm, ((hf1.mono (fun _ _ x => x.elim)).trans hf2 (fun _ _ e => .inr e)).trans hf3 (fun _ _ e => .inl e), ?_, hf3.heap hr2 (fun e => hqr e.symm)⟩
  rw [hh, e1]; simp
set_option maxHeartbeats 4000000 in
theorem DSteal_is {W : World} {B q N top : Nat} {A : Option Addr} {vs l : List Int} (h : IsDeq W B q A N top vs l) (hN : N ≤ 10000000) :
    Calls Tryd.prog 83 #[.pointer (some ⟨q, 0, none⟩)] W (Rets (StealPost W B q A N l)) := by
  have HL := Lib.hid (DLen_is h)
  cases hl : l with
  | nil =>
    subst hl
    go_enter Tryd.func83, Tryd.ntmps83
    go_wp2_with (go_at_call 97; refine (HL.out).mono ?_; rintro e w' ⟨rfl, rfl⟩)
    go_ret2
    exact ⟨_, rfl, Fr.refl _ _, .inl ⟨rfl, rfl, top, vs, h⟩⟩
  | cons x r =>
    rcases h.ring with ⟨_, _, _, _, e⟩ | ⟨rb, rfl, hBr, hr, hvl, htop, hln, hat⟩
    · rw [e] at hl; cases hl
    have hl0 : 0 < l.length := by rw [hl]; simp
    have HT := Lib.hid (DTake_is h.blk hr hvl htop hl0 (by omega) hln)
    have hll : l.length = r.length + 1 := by rw [hl]; simp
    have hnz : ((l.length : Int) == 0) = false := by rw [beq_eq_false_iff_ne]; omega
    have hnz2 : ¬ (l.length : Int) = 0 := by omega
    have hx : vs.getD top 0 = x := by
      have := hat 0 hl0
      rw [Nat.add_zero, Nat.mod_eq_of_lt htop] at this
      rw [this, hl]; rfl
    have HX := Lib.hid hx
    have HAT := Lib.hid hat
    have HLL := Lib.hid hl
    clear h hr hat hl hx
    go_enter Tryd.func83, Tryd.ntmps83
    go_wp2_with (first
      | (go_at_call 97; refine (HL.out).mono ?_; rintro e w' ⟨rfl, rfl⟩)
      | (go_at_call 98; refine (HT.out).mono ?_; rintro e w1 ⟨_, rfl, rfl, hf1, hb1, hr1⟩; rw [HX.out])
      | (go_at_call 96; refine (DAt_c (A := some ⟨rb, 0, none⟩) (N := N) (top := top) (k := 1) (by simp [World.cell?, hb1]) (by simp [World.cell?, hb1]) (by omega) (by omega) (by omega) (by omega)).mono ?_; rintro e w2 ⟨_, rfl, rfl, hf2⟩; have hb2 := hf2.heap' hb1; have d0 : w2.cell? ⟨q, 1, none⟩ = some (.int .i64 top) := (by simp [World.cell?, hb2]); have f0 : w2.frozen? ⟨q, 1, none⟩ = false := (by simp [World.frozen?, hb2])))
    go_ret2
    have hf3 : Fr (fun k => k = q) w2 (w2.setCell ⟨q, 1, none⟩ (.int .i64 (((top : Int) + 1) % (N : Int)))) := fr_setCell _ _ _ (fun _ => rfl)
    have hh := heap_setCell_same (o := 1) hb2 (.int .i64 (((top : Int) + 1) % (N : Int)))
    have hqr : q ≠ rb := by
      intro e
      unfold IntRow at hr1
      rw [e, hr1] at hb1; injection hb1 with hb1; injection hb1 with _ hb1 _; exact absurd hb1 (by decide)
    refine ⟨_, rfl, ((hf1.trans0 hf2).mono (fun j _ e => e.elim .inl (fun e => .inr (by rw [e])))).trans hf3 (fun _ _ e => .inl e), .inr ⟨x, r, rfl, rfl, (top + 1) % N, vs.set top 0, ⟨?_, .inr ⟨rb, rfl, hBr, hf3.heap (hf2.heap' hr1) (fun e => hqr e.symm), by rw [List.length_set]; exact hvl, Nat.mod_lt _ (by omega), by omega, fun j hj => ?_⟩⟩⟩⟩
    · rw [hh, hll]; simp
    · have h1 := HAT.out (j + 1) (by omega)
      have e1 : ((top + 1) % N + j) % N = (top + (j + 1)) % N := by rw [Nat.mod_add_mod, Nat.add_assoc, Nat.add_comm 1 j]
      have hne := mod_apart (t := top) (a := 0) (b := j + 1) (N := N) (by omega) (by omega)
      rw [Nat.add_zero, Nat.mod_eq_of_lt htop] at hne
      rw [e1, List.getD_eq_getElem?_getD, List.getElem?_set_ne hne, ← List.getD_eq_getElem?_getD, h1, HLL.out]
      simp
end Go.Proofs.YtdihpobegoihkaaDoor
