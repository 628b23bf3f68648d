/- Out, Clo, CloB, Marks, in one text. -/
import Derived.Test.YtdcjfpjpboafnaaDoorGraph
import Derived.Test.YtdcjfpjpboafnaaDoorBitsIt
namespace Go.Proofs.YtdcjfpjpboafnaaDoor
set_option linter.all false
open Go.RowKit Go.Shelf
attribute [local go_sem] Oper.semAt_some
set_option maxRecDepth 100000

theorem Out_is (p : Option Addr) (v m : Int) (w : World) : Calls Tryd.prog 63 #[.pointer p, .int .i64 v, .int .i64 m] w fun e w' =>
    e = .returned (.func (.func 77) #[] #[.pointer (some ⟨w.heap.size, 0, none⟩), .pointer (some ⟨w.heap.size + 1, 0, none⟩), .pointer (some ⟨w.heap.size + 2, 0, none⟩)]) ∧
    w' = ((w.alloc (.cells #[.pointer p] 66)).alloc (.cells #[.int .i64 v] 3)).alloc (.cells #[.int .i64 m] 3) := by
  go_enter Tryd.func63, Tryd.ntmps63
  go_wp2
  go_ret
  exact ⟨rfl, rfl⟩
/-- The arcs of a vertex that have a bit of a mask. -/
def outL (J : List ArcI) (v : Nat) (m : Int) : List ArcI := (rowL J v).filter (fun a => bits .and .i64 a.m m != 0)
abbrev encO : ArcI → Array Value := fun a => #[.int .i64 a.t, .int .i64 a.m]
def outK (k g n : Nat) (J : List ArcI) (ab : Nat) (A : Option Addr) (c v : Nat) (m : Int) (W : World) : Prop :=
  Box W k 66 (.pointer (some ⟨g, 0, none⟩)) ∧ Box W (k + 1) 3 (.int .i64 v) ∧ Box W (k + 2) 3 (.int .i64 m) ∧ IsG W g n J ab A c
theorem outK.grow {k g n ab c v B : Nat} {J : List ArcI} {A : Option Addr} {m : Int} (W W' : World) (h : outK k g n J ab A c v m W) (hG : Grow B W W') : outK k g n J ab A c v m W' :=
  ⟨h.1.grow hG, h.2.1.grow hG, h.2.2.1.grow hG, h.2.2.2.grow hG⟩
set_option maxHeartbeats 2000000 in
theorem Out1_is (k g n : Nat) (J : List ArcI) (ab : Nat) (A : Option Addr) (c v : Nat) (m : Int) (hv : v < n) :
    IterSpec Tryd.prog 77 #[.pointer (some ⟨k, 0, none⟩), .pointer (some ⟨k + 1, 0, none⟩), .pointer (some ⟨k + 2, 0, none⟩)] encO (outL J v m) (outK k g n J ab A c v m) := by
  intro l Ji Jx W hl hJK hJg hJxg h0 hY
  obtain ⟨x1, x2, x3, hg⟩ := hJK _ _ h0
  have y1 := x1.cell
  have y2 := x2.cell
  have HR := Lib.hid (row_is hg v hv)
  have HL : Hid ((rowL J v).length ≤ 17592186044416) := Lib.hid (by have := hg.gx.2.2.1.1; have := cnt_add_le J v; rw [rowL_len]; omega)
  clear x1 x2 x3 hg
  refine callsIn_of_wp Tryd.func77 rfl trivial ?_
  simp only [Tryd.ntmps77, List.size_toArray, List.length_cons, List.length_nil, Nat.reduceAdd, Nat.reduceSub, Array.replicate_succ, Array.replicate_zero, List.push_toArray, List.append_toArray, List.nil_append, List.cons_append]
  gi_wp2_with (gi_at_call 78; refine (callsIn_wide.2 HR.out).mono ?_; rintro e w1 ⟨_, rfl, c', rfl, hf1⟩)
  have hnd1 : ND (l + 1) W w1 := hf1.ND _
  have h1 := hJg _ _ _ h0 (Fr0.grow hf1 _)
  have hsz1 := hf1.size
  generalize hrow : rowL J v = row at HL
  have HROW := Lib.hid hrow
  clear h0 y1 y2 HR hf1
  gi_loopw [11] (fun v11 wr => ∃ (k : Nat) (pre : List ArcI), k ≤ row.length ∧ v11 = .int .i64 k ∧ Hid (pre = (row.take k).filter (fun a => bits .and .i64 a.m m != 0)) ∧ Ji pre wr ∧ ND (l + 1) W wr ∧ W.heap.size ≤ wr.heap.size)
    (fun v11 _ => row.length - (intOf v11).toNat)
  case atStart => exact ⟨0, [], by omega, rfl, Lib.hid rfl, h1, hnd1, hsz1⟩
  case round =>
    obtain ⟨i, pre, hk, rfl, HP, hJs, hnd, hsz⟩ := hrel
    by_cases hlt : i < row.length
    · obtain ⟨z1, z2, z3, hg⟩ := hJK _ _ hJs
      have hat := rowL_at (v := v) hg.gx.2.2.1 hg.gx.2.2.2.1
      rw [HROW.out] at hat
      rcases hat.2 with e | ⟨b, o, hA, hc⟩
      · rw [e] at hlt; cases hlt
      obtain ⟨c1, c2, c3⟩ := hc i hlt
      rw [hA]
      have htake := take_snoc_a row i hlt
      generalize ha : row.getD i default = a at c1 c2 c3 htake
      have hP2 : (row.take (i + 1)).filter (fun a => bits .and .i64 a.m m != 0) = pre ++ (if (bits .and .i64 a.m m != 0) = true then [a] else []) := by
        rw [htake, List.filter_append, ← HP.out, List.filter_cons, List.filter_nil]
      have hJ4 := hJg _ _ _ hJs (grow_alloc W.heap.size wr (.cells #[.int .i64 a.f, .int .i64 a.t, .int .i64 a.m] 65))
      have hnd4 : ND (l + 1) W (wr.alloc (.cells #[.int .i64 a.f, .int .i64 a.t, .int .i64 a.m] 65)) := hnd.trans ((fr_alloc (fun _ => False) _ _).ND _)
      obtain ⟨_, _, z3, _⟩ := hJK _ _ hJ4
      have y3 := z3.cell
      have HP2 := Lib.hid hP2
      have HA := Lib.hid ha
      clear hP2 htake hat hc hg z1 z2 z3 ha HP
      have hwr : Hid (wrap64 ((i : Int) + 1) = (i : Int) + 1) := Lib.hid (by have := HL.out; unfold wrap64; omega)
      by_cases hz : bits .and .i64 a.m m = 0
      · have hzb : (bits .and .i64 a.m m == 0) = true := by simpa using hz
        have hz2 := Lib.hid hz
        clear hz
        gi_wp2
        rw [hwr.out]
        go_roundw
        case rel => exact ⟨i + 1, pre, by omega, by go_num, Lib.hid (by rw [HP2.out, if_neg (by rw [hz2.out]; decide), List.append_nil]), hJ4, hnd4, by rw [World.size_alloc]; omega⟩
        case measure => simp [intOf]; omega
      · have hzb : (bits .and .i64 a.m m == 0) = false := by simpa using hz
        have hp2 : (row.take (i + 1)).filter (fun a => bits .and .i64 a.m m != 0) = pre ++ [a] := by
          rw [HP2.out, if_pos (by simp only [bne, hzb]; rfl)]
        have HP3 := Lib.hid hp2
        obtain ⟨fn, tmps, assign, body, hy, hR⟩ := hY pre a _ hJ4 ⟨(row.drop (i + 1)).filter (fun a => bits .and .i64 a.m m != 0), by rw [← hp2, ← List.filter_append, List.take_append_drop, outL, HROW.out]⟩
        have hy' : (Instr.yield l #[.int .i64 a.t, .int .i64 a.m]).run Tryd.prog (wr.alloc (.cells #[.int .i64 a.f, .int .i64 a.t, .int .i64 a.m] 65)) = .ok (.round l fn tmps assign body) (wr.alloc (.cells #[.int .i64 a.f, .int .i64 a.t, .int .i64 a.m] 65)) := hy
        clear hy hp2 HP2
        gi_wp2
        refine hR.mono ?_
        rintro e W3 ⟨hnd3, (⟨rfl, hJ3⟩ | ⟨rfl, hJx3⟩)⟩
        · gi_wp2
          rw [hwr.out]
          go_roundw
          case rel => exact ⟨i + 1, pre ++ [a], by omega, by go_num, Lib.hid HP3.out.symm, hJ3, hnd4.trans hnd3, Nat.le_trans hsz (Nat.le_trans (by rw [World.size_alloc]; exact Nat.le_succ _) hnd3.size)⟩
          case measure => simp [intOf]; omega
        · gi_wp2
          go_end0
          refine ⟨⟨_, rfl⟩, hnd4.trans hnd3, .inr ⟨pre ++ [a], ?_, hJx3⟩⟩
          exact ⟨(row.drop (i + 1)).filter (fun a => bits .and .i64 a.m m != 0), by rw [← HP3.out, ← List.filter_append, List.take_append_drop, outL, HROW.out]⟩
    · have hke : i = row.length := by omega
      gi_wp2
      go_end0
      refine ⟨⟨_, rfl⟩, hnd, .inl ?_⟩
      have := HP.out
      rw [hke, List.take_of_length_le (Nat.le_refl _)] at this
      rw [outL, HROW.out, ← this]; exact hJs
end Go.Proofs.YtdcjfpjpboafnaaDoor
namespace Go.Proofs.YtdcjfpjpboafnaaDoor
set_option linter.all false
open Go.RowKit
set_option maxRecDepth 100000

def ptrs (L : List (Nat × Nat)) : List Value := L.map (fun p => .pointer (some ⟨p.1, 0, none⟩))
section
variable {W W' : World} {cg n : Nat} {L : List (Nat × Nat)} {M : Nat → Nat → Bool}
end
def hasI (n : Nat) (v : Int) : Bool := decide (0 ≤ v) && decide (v < n)
/-- What leads where, of any numbers. -/
def leadsI (n : Nat) (M : Nat → Nat → Bool) (a b : Int) : Bool := hasI n a && (decide (0 ≤ b) && M a.toNat b.toNat)
end Go.Proofs.YtdcjfpjpboafnaaDoor
namespace Go.Proofs.YtdcjfpjpboafnaaDoor
set_option linter.all false
open Go.RowKit
set_option maxRecDepth 100000

/-- The row of a number. -/
def rowI (n : Nat) (M : Nat → Nat → Bool) (a : Int) : Nat → Bool := fun k => hasI n a && M a.toNat k
theorem ints_snoc (l : List Nat) (x : Nat) : ints l ++ [.int .i64 (x : Int)] = ints (l ++ [x]) := by simp [ints]
theorem range_succ_filter (p : Nat → Bool) (k : Nat) : (List.range (k + 1)).filter p = (List.range k).filter p ++ (if p k = true then [k] else []) := by
  rw [List.range_succ, List.filter_append, List.filter_cons, List.filter_nil]
end Go.Proofs.YtdcjfpjpboafnaaDoor
namespace Go.Proofs.YtdcjfpjpboafnaaDoor
set_option linter.all false
open Go.RowKit Go.Shelf
set_option maxRecDepth 100000

def marksOf (Ds : List Nat) : List Deferred := Ds.map fun D => { target := .collected D, args := #[] }
/-- Marks at blocks from lo on, below hi, all still empty. -/
structure Marks (lo hi : Nat) (Ds : List Nat) (W : World) : Prop where
  nodup : Ds.Nodup
  each : ∀ D ∈ Ds, lo ≤ D ∧ D < hi ∧ W.heap[D]? = some (.deferred (some []))
section
variable {P : Program} {fn : Func} {R : Ending → World → Prop} {tmps : Array Value} {W W' : World} {lo hi hi' : Nat} {Ds : List Nat} {t : Nat}
theorem Marks.nil (lo hi : Nat) (W : World) : Marks lo hi [] W := ⟨List.nodup_nil, fun _ h => by cases h⟩
theorem Marks.cons (h : Marks lo hi Ds W) {D : Nat} (hD : hi ≤ D) (hl : lo ≤ D) (hk : W.heap[D]? = some (.deferred (some []))) : Marks lo (D + 1) (D :: Ds) W :=
  ⟨List.nodup_cons.2 ⟨fun hm => by have := (h.each D hm).2.1; omega, h.nodup⟩, fun E hE => by
    rcases List.mem_cons.1 hE with rfl | hE
    · exact ⟨hl, Nat.lt_succ_self _, hk⟩
    · have := h.each E hE; exact ⟨this.1, by omega, this.2.2⟩⟩
theorem Marks.mono (h : Marks lo hi Ds W) (hh : hi ≤ hi') : Marks lo hi' Ds W := ⟨h.nodup, fun D hD => ⟨(h.each D hD).1, Nat.lt_of_lt_of_le (h.each D hD).2.1 hh, (h.each D hD).2.2⟩⟩
theorem Marks.grow {B : Nat} (h : Marks lo hi Ds W) (f : Grow B W W') (hB : hi ≤ B) : Marks lo hi Ds W' :=
  ⟨h.nodup, fun D hD => ⟨(h.each D hD).1, (h.each D hD).2.1, (f.low D (by have := (h.each D hD).2.1; omega) (heap_lt (h.each D hD).2.2)).trans (h.each D hD).2.2⟩⟩
theorem Marks.fr {S : Nat → Prop} (h : Marks lo hi Ds W) (f : Fr S W W') : Marks lo hi Ds W' :=
  ⟨h.nodup, fun D hD => ⟨(h.each D hD).1, (h.each D hD).2.1, f.nd _ _ (h.each D hD).2.2 rfl⟩⟩
theorem leavesN (hr : fn.results = #[.tmp t]) : ∀ (Ds : List Nat) (W : World), Marks lo hi Ds W → (∀ W', Grow lo W W' → R (.returned (tmps.getD t undef)) W') →
    LeavesInM Fence.wide 0 P fn tmps R (marksOf Ds) .returning W := by
  intro Ds
  induction Ds with
  | nil => intro W _ h; exact ⟨_, results_tmp hr _ _ _, h _ (Grow.refl _ _)⟩
  | cons D Ds ih =>
    intro W hm h
    obtain ⟨h1, h2, hk⟩ := hm.each D (List.mem_cons_self ..)
    refine ⟨by simp, .inl ⟨_, _, rfl, run_takeDeferred hk, ih _ ⟨(List.nodup_cons.1 hm.nodup).2, fun E hE => ?_⟩ (fun W' hg => h _ (((shut_mark hk).mono h1).trans hg))⟩⟩
    obtain ⟨k1, k2, k3⟩ := hm.each E (List.mem_cons_of_mem _ hE)
    have hne : E ≠ D := fun e => (List.nodup_cons.1 hm.nodup).1 (e ▸ hE)
    exact ⟨k1, k2, (World.putObj_heap_other hne).trans k3⟩
theorem leave1N (hr : fn.results = #[.tmp t]) (hm : Marks lo hi Ds W) (h : ∀ W', Grow lo W W' → R (.returned (tmps.getD t undef)) W') :
    bodyPostM Fence.wide 0 P fn R .ret { tmps, defers := marksOf Ds } W := leavesN hr Ds W hm h
end
end Go.Proofs.YtdcjfpjpboafnaaDoor
