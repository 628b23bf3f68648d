/- Finder, DeqO, Spts, in one text. -/
import Derived.Test.YtdcjfpjpboafnaaDoorMaps
import Derived.Test.YtdcjfpjpboafnaaDoorInts
import Derived.Test.YtdcjfpjpboafnaaDoorDist
import Derived.Test.YtdcjfpjpboafnaaDoorArcs
import Derived.BigRegion
import Derived.Test.YtdcjfpjpboafnaaDoorRefA
import Derived.Laws.CopyOwn
import Derived.BigRegionIn
import Derived.RegionIn
import Derived.Deep.RegionHeldLaw
namespace Go.Proofs.YtdcjfpjpboafnaaDoor
set_option linter.all false
open Go.RowKit
set_option maxRecDepth 100000

abbrev sptE (x : Int × Bool) : Value := .agg #[.int .i64 x.1, .bool x.2]
abbrev sptL (x : Int × Bool) : Lit := .string (keyBytes [.int .i64 x.1, .bool x.2])
abbrev sptO (x : Int × Bool) : Prop := (Lit.int .i64 x.1).wf = true ∧ True
theorem laid_out25 : laidOutB Tryd.prog = true := by kernel_rfl
theorem sptK : KeyEnc Tryd.prog 63 sptE sptL sptO :=
  pairKey Tryd.underlying63 laid_out25 (of_decide_eq_true (by kernel_rfl)) (by kernel_rfl) (of_decide_eq_true (by kernel_rfl)) (by kernel_rfl) (by kernel_rfl) (by kernel_rfl) rfl rfl (by kernel_rfl) (by kernel_rfl) (of_decide_eq_true (by kernel_rfl))
    (intPart Tryd.underlying3) (boolPart Tryd.underlying4)
theorem zero_intF : ∀ w : World, (zeroValue 3).run Tryd.prog w = .ok (.int .i64 0) w := fun w => by kernel_rfl
/-- What the map tells. -/
def farM (far : Nat → Bool → Option Nat) (x : Int × Bool) : Option Value := if 0 ≤ x.1 then (far x.1.toNat x.2).map (fun k : Nat => .int .i64 (k : Int)) else none
/-- How far it is; below 0: that is not known. -/
def numF (far : Nat → Bool → Option Nat) (v : Int) (b : Bool) : Int := if 0 ≤ v then (far v.toNat b).elim (-1) (fun k : Nat => (k : Int)) else -1
theorem farM_num (far : Nat → Bool → Option Nat) (v : Int) (b : Bool) : (farM far (v, b) = none ∧ numF far v b = -1) ∨ ∃ k : Nat, farM far (v, b) = some (.int .i64 (k : Int)) ∧ numF far v b = (k : Int) := by
  unfold farM numF
  by_cases h : 0 ≤ v
  · rw [if_pos h, if_pos h]
    cases far v.toNat b with
    | none => exact .inl ⟨rfl, rfl⟩
    | some k => exact .inr ⟨k, rfl, rfl⟩
  · rw [if_neg h, if_neg h]; exact .inl ⟨rfl, rfl⟩
/-- The finder's block: where arcs lead, the set, the rule, the map; its row. -/
def FinBlk (W : World) (q : Nat) (r wb : Option Addr) (a b c : Int) (mb : Nat) (ring : Value) (top n : Int) : Prop :=
  W.heap[q]? = some (.cells #[.pointer r, .pointer wb, .int .i64 a, .int .i64 b, .int .i64 c, .map (some mb), ring, .int .i64 top, .int .i64 n] 84 (0, 0))
section
variable {W W' : World} {q mb : Nat} {r wb : Option Addr} {a b c top n : Int} {ring : Value}
theorem FinBlk.c0 (h : FinBlk W q r wb a b c mb ring top n) : W.cell? ⟨q, 0, none⟩ = some (.pointer r) := by unfold FinBlk at h; simp [World.cell?, h]
theorem FinBlk.c1 (h : FinBlk W q r wb a b c mb ring top n) : W.cell? ⟨q, 1, none⟩ = some (.pointer wb) := by unfold FinBlk at h; simp [World.cell?, h]
theorem FinBlk.c2 (h : FinBlk W q r wb a b c mb ring top n) : W.cell? ⟨q, 2, none⟩ = some (.int .i64 a) := by unfold FinBlk at h; simp [World.cell?, h]
theorem FinBlk.c3 (h : FinBlk W q r wb a b c mb ring top n) : W.cell? ⟨q, 3, none⟩ = some (.int .i64 b) := by unfold FinBlk at h; simp [World.cell?, h]
theorem FinBlk.c4 (h : FinBlk W q r wb a b c mb ring top n) : W.cell? ⟨q, 4, none⟩ = some (.int .i64 c) := by unfold FinBlk at h; simp [World.cell?, h]
theorem FinBlk.c5 (h : FinBlk W q r wb a b c mb ring top n) : W.cell? ⟨q, 5, none⟩ = some (.map (some mb)) := by unfold FinBlk at h; simp [World.cell?, h]
theorem FinBlk.fr {S : Nat → Prop} (h : FinBlk W q r wb a b c mb ring top n) (f : Fr S W W') (hs : ¬ S q) : FinBlk W' q r wb a b c mb ring top n := f.heap h hs
theorem FinBlk.fr0 (h : FinBlk W q r wb a b c mb ring top n) (f : Fr0 W W') : FinBlk W' q r wb a b c mb ring top n := f.heap h (fun x => x)
theorem FinBlk.lt (h : FinBlk W q r wb a b c mb ring top n) : q < W.heap.size := heap_lt h
end
set_option maxHeartbeats 4000000 in
theorem Num_is {W : World} {q mb m : Nat} {r wb : Option Addr} {a b c top n : Int} {ring : Value} {far : Nat → Bool → Option Nat} (h : FinBlk W q r wb a b c mb ring top n) (hm : MapIs Tryd.prog 63 sptL sptO W mb m (farM far))
    {v : Int} (hv : (Lit.int .i64 v).wf = true) (d : Bool) :
    Calls Tryd.prog 26 #[.pointer (some ⟨q, 0, none⟩), sptE (v, d)] W (Rets (fun x w' => x = .int .i64 (numF far v d) ∧ Fr0 W w')) := by
  have hF : Fr0 W (W.alloc (.cells #[.int .i64 v, .bool d] 63)).drew := (fr_alloc _ _ _).drew
  have c5 := (h.fr0 hF).c5
  have c5' := (h.fr0 (fr_alloc _ W (.cells #[.int .i64 v, .bool d] 63))).c5
  have hlk := (hm.fr0 hF).look_ok sptK Tryd.underlying80 (zero_intF _) (x := (v, d)) ⟨hv, trivial⟩
  simp only [sptE] at hlk
  rcases farM_num far v d with ⟨e1, e2⟩ | ⟨k, e1, e2⟩
  · rw [e1] at hlk
    have HE := Lib.hid e2
    simp only [Option.getD_none, Option.isSome_none] at hlk
    clear h hm e1 e2
    go_enter Tryd.func26, Tryd.ntmps26
    go_wp2_with fail
    go_region
    go_wp2_with fail
    go_ret
    exact ⟨_, rfl, by rw [HE.out]; rfl, hF⟩
  · rw [e1] at hlk
    have HE := Lib.hid e2
    simp only [Option.getD_some, Option.isSome_some] at hlk
    clear h hm e1 e2
    go_enter Tryd.func26, Tryd.ntmps26
    go_wp2_with fail
    go_region
    go_wp2_with fail
    go_ret
    exact ⟨_, rfl, by rw [HE.out]; rfl, hF⟩
end Go.Proofs.YtdcjfpjpboafnaaDoor
namespace Go.Proofs.YtdcjfpjpboafnaaDoor
set_option linter.all false
open Go.RowKit
set_option maxRecDepth 100000

/-- Block q holds a ring's three cells behind those of pre, ahead of those of post. -/
def DqBlk (W : World) (q ty : Nat) (pre post : List Value) (ring : Value) (top n : Int) : Prop :=
  W.heap[q]? = some (.cells (pre ++ ring :: .int .i64 top :: .int .i64 n :: post).toArray ty (0, 0))
section
variable {W W' : World} {q ty : Nat} {pre post : List Value} {ring : Value} {top n : Int}
theorem DqBlk.c0 (h : DqBlk W q ty pre post ring top n) : W.cell? ⟨q, pre.length, none⟩ = some ring := by unfold DqBlk at h; simp [World.cell?, h]
theorem DqBlk.c1 (h : DqBlk W q ty pre post ring top n) : W.cell? ⟨q, pre.length + 1, none⟩ = some (.int .i64 top) := by unfold DqBlk at h; simp [World.cell?, h, List.getElem?_append_right]
theorem DqBlk.c2 (h : DqBlk W q ty pre post ring top n) : W.cell? ⟨q, pre.length + 2, none⟩ = some (.int .i64 n) := by unfold DqBlk at h; simp [World.cell?, h, List.getElem?_append_right]
theorem DqBlk.fz (h : DqBlk W q ty pre post ring top n) (o : Nat) : W.frozen? ⟨q, o, none⟩ = false := by unfold DqBlk at h; simp [World.frozen?, h]
theorem DqBlk.fr {S : Nat → Prop} (h : DqBlk W q ty pre post ring top n) (f : Fr S W W') (hs : ¬ S q) : DqBlk W' q ty pre post ring top n := f.heap h hs
theorem DqBlk.fr0 (h : DqBlk W q ty pre post ring top n) (f : Fr0 W W') : DqBlk W' q ty pre post ring top n := f.heap h (fun x => x)
theorem DqBlk.lt (h : DqBlk W q ty pre post ring top n) : q < W.heap.size := heap_lt h
theorem DqBlk.set2 (h : DqBlk W q ty pre post ring top n) (m : Int) : DqBlk (W.setCell ⟨q, pre.length + 2, none⟩ (.int .i64 m)) q ty pre post ring top m := by
  unfold DqBlk at h ⊢
  rw [heap_setCell_same (o := pre.length + 2) h]
  simp
theorem DqBlk.set1 (h : DqBlk W q ty pre post ring top n) (m : Int) : DqBlk (W.setCell ⟨q, pre.length + 1, none⟩ (.int .i64 m)) q ty pre post ring m n := by
  unfold DqBlk at h ⊢
  rw [heap_setCell_same (o := pre.length + 1) h]
  simp
theorem DqBlk.set0 (h : DqBlk W q ty pre post ring top n) (u : Value) : DqBlk (W.setCell ⟨q, pre.length, none⟩ u) q ty pre post u top n := by
  unfold DqBlk at h ⊢
  rw [heap_setCell_same (o := pre.length) h]
  simp
end
theorem DLenS_is {W : World} {q ty : Nat} {pre post : List Value} {ring : Value} {top n : Int} (h : DqBlk W q ty pre post ring top n) :
    Calls Tryd.prog 53 #[.pointer (some ⟨q, pre.length, none⟩)] W fun e w' => e = .returned (.int .i64 n) ∧ W = w' := by
  have c2 := h.c2
  clear h
  generalize pre.length = o at *
  go_enter Tryd.func53, Tryd.ntmps53
  go_wp2_with fail
  go_ret
  exact ⟨rfl, rfl⟩
theorem DAtS_c {W : World} {q o N top : Nat} {A : Option Addr} (c0 : W.cell? ⟨q, o, none⟩ = some (.slice A N N)) (c1 : W.cell? ⟨q, o + 1, none⟩ = some (.int .i64 top)) (hN : 0 < N) (hsm : N ≤ 100000000) (ht : top ≤ N) {k : Nat} (hk : k ≤ 100000000) :
    Calls Tryd.prog 55 #[.pointer (some ⟨q, o, none⟩), .int .i64 (k : Int)] W (Rets (fun v w' => v = .int .i64 (((top + k) % N : Nat) : Int) ∧ Fr0 W w')) := by
  have hz : ((N : Int) == 0) = false := by simp; omega
  have hz2 : ¬ (N : Int) = 0 := by omega
  have hw : IntKind.i64.wrap ((top : Int) + (k : Int)) = (top : Int) + (k : Int) := by rw [IntKind.wrap_i64]; omega
  go_enter Tryd.func55, Tryd.ntmps55
  go_wp2_with fail
  go_quiet (fail)
  go_wp2_with fail
  go_ret
  exact ⟨_, rfl, int_eq (by simp), fr_drewN _ _ _⟩
/-- A ring of spots. -/
def sptCells (l : List (Int × Bool)) : List Value := l.flatMap (fun x => [.int .i64 x.1, .bool x.2])
def SptRow (W : World) (b : Nat) (vs : List (Int × Bool)) : Prop := W.heap[b]? = some (.cells (sptCells vs).toArray 63 (0, 0))
theorem sptCells_len (l : List (Int × Bool)) : (sptCells l).length = l.length * 2 := by
  induction l with
  | nil => rfl
  | cons x l ih => simp only [sptCells, List.flatMap_cons, List.length_append, List.length_cons] at ih ⊢; rw [ih]; simp; omega
theorem sptCells_get (l : List (Int × Bool)) (i : Nat) (h : i < l.length) : (sptCells l)[i * 2]? = some (.int .i64 l[i].1) ∧ (sptCells l)[i * 2 + 1]? = some (.bool l[i].2) := by
  induction l generalizing i with
  | nil => simp at h
  | cons x l ih =>
    cases i with
    | zero => simp [sptCells]
    | succ i =>
      have := ih i (by simpa using h)
      have e : (i + 1) * 2 = i * 2 + 2 := by omega
      rw [e]
      simpa [sptCells] using this
theorem SptRow.fr {S : Nat → Prop} {W W' : World} {b : Nat} {vs : List (Int × Bool)} (h : SptRow W b vs) (f : Fr S W W') (hs : ¬ S b) : SptRow W' b vs := f.heap h hs
theorem SptRow.c0 {W : World} {b : Nat} {vs : List (Int × Bool)} (h : SptRow W b vs) {i : Nat} (hi : i < vs.length) : W.cell? ⟨b, i * 2, none⟩ = some (.int .i64 (vs.getD i (0, false)).1) := by
  unfold SptRow at h
  have := (sptCells_get vs i hi).1
  simp [World.cell?, h, this, List.getD_eq_getElem?_getD, List.getElem?_eq_getElem hi]
theorem SptRow.c1 {W : World} {b : Nat} {vs : List (Int × Bool)} (h : SptRow W b vs) {i : Nat} (hi : i < vs.length) : W.cell? ⟨b, i * 2 + 1, none⟩ = some (.bool (vs.getD i (0, false)).2) := by
  unfold SptRow at h
  have := (sptCells_get vs i hi).2
  simp [World.cell?, h, this, List.getD_eq_getElem?_getD, List.getElem?_eq_getElem hi]
theorem SptRow.fz {W : World} {b : Nat} {vs : List (Int × Bool)} (h : SptRow W b vs) (o : Nat) : W.frozen? ⟨b, o, none⟩ = false := by unfold SptRow at h; simp [World.frozen?, h]
theorem sptCells_set (l : List (Int × Bool)) (i : Nat) (h : i < l.length) (x : Int × Bool) : ((sptCells l).set (i * 2) (.int .i64 x.1)).set (i * 2 + 1) (.bool x.2) = sptCells (l.set i x) := by
  induction l generalizing i with
  | nil => simp at h
  | cons y l ih =>
    cases i with
    | zero => simp [sptCells]
    | succ i =>
      have := ih i (by simpa using h)
      have e : (i + 1) * 2 = i * 2 + 2 := by omega
      rw [e]
      simpa [sptCells] using this
theorem SptRow.set {W : World} {b : Nat} {vs : List (Int × Bool)} (h : SptRow W b vs) {i : Nat} (hi : i < vs.length) (x : Int × Bool) : SptRow ((W.setCell ⟨b, i * 2, none⟩ (.int .i64 x.1)).setCell ⟨b, i * 2 + 1, none⟩ (.bool x.2)) b (vs.set i x) := by
  unfold SptRow at h ⊢
  rw [heap_setCell_same (o := i * 2 + 1) (heap_setCell_same (o := i * 2) h _) _, ← sptCells_set vs i hi x]
  simp
/-- The thing of the top place is taken; the top stays yet. -/
def TakeS (W : World) (q ty : Nat) (pre post : List Value) (rb N top : Nat) (m : Int) (vs : List (Int × Bool)) (v : Value) (w' : World) : Prop :=
  v = sptE (vs.getD top (0, false)) ∧ Fr (fun k => k = q ∨ k = rb) W w' ∧ DqBlk w' q ty pre post (.slice (some ⟨rb, 0, none⟩) N N) top m ∧ SptRow w' rb (vs.set top (0, false))
theorem two_spt (W : World) (u v : Value) : (W.alloc (.cells #[u, v] 63)).cell? ⟨W.heap.size, 0, none⟩ = some u ∧ (W.alloc (.cells #[u, v] 63)).cell? ⟨W.heap.size, 1, none⟩ = some v := by
  have h := World.alloc_heap_new W (.cells #[u, v] 63)
  constructor <;> (unfold World.cell?; rw [h]; rfl)
set_option maxHeartbeats 4000000 in
theorem DTakeS_is {W : World} {q ty N top rb : Nat} {pre post : List Value} {m : Int} {vs : List (Int × Bool)} (hb : DqBlk W q ty pre post (.slice (some ⟨rb, 0, none⟩) N N) top m) (hm : 0 < m) (hm2 : m ≤ 100000000)
    (hr : SptRow W rb vs) (hvl : vs.length = N) (htop : top < N) (hN : N ≤ 100000000) (hqr : q ≠ rb) :
    Calls Tryd.prog 54 #[.pointer (some ⟨q, pre.length, none⟩), .int .i64 0] W (Rets (TakeS W q ty pre post rb N top (m - 1) vs)) := by
  have hF0 : Fr0 W ((W.alloc (.cells #[.int .i64 0, .bool false] 63)).alloc (.cells #[.int .i64 0, .bool false] 63)) := (fr_alloc _ _ _).alloc _
  have HAT := Lib.hid (DAtS_c (hb.fr0 hF0).c0 (hb.fr0 hF0).c1 (by omega) hN (by omega) (k := 0) (by omega))
  rw [Nat.add_zero, Nat.mod_eq_of_lt htop] at HAT
  have htop' : (top : Int) < (N : Int) := by omega
  have hwm : IntKind.i64.wrap (m - 1) = m - 1 := by rw [IntKind.wrap_i64]; omega
  have HB := Lib.hid hb
  have HR := Lib.hid hr
  have hql := hb.lt
  have hrl : rb < W.heap.size := heap_lt hr
  obtain ⟨y, hy⟩ : ∃ y, vs.getD top (0, false) = y := ⟨_, rfl⟩
  have HY := Lib.hid hy
  have z := two_spt W (.int .i64 0) (.bool false)
  have z2 := two_spt (W.alloc (.cells #[.int .i64 0, .bool false] 63)) (.int .i64 0) (.bool false)
  rw [World.size_alloc] at z2
  have Z := Lib.hid z
  have Z2 := Lib.hid z2
  clear hb hr hy z z2
  go_enter Tryd.func54, Tryd.ntmps54
  go_upto_region 3 with (go_at_call 55; refine (HAT.out).mono ?_; rintro e w1 ⟨_, rfl, rfl, hf1⟩)
  have hF1 := hF0.trans0 hf1
  have c0 := (HB.out.fr0 hF1).c0
  have d0 := (HR.out.fr hF1 (fun x => x)).c0 (i := top) (by omega)
  have d1 := (HR.out.fr hF1 (fun x => x)).c1 (i := top) (by omega)
  rw [HY.out] at d0 d1
  go_upto_region 4 with fail
  obtain ⟨w2, hw2⟩ : ∃ w2, w2 = w1.alloc (.cells #[.int .i64 y.1, .bool y.2] 63) := ⟨_, rfl⟩
  have hY := two_spt w1 (.int .i64 y.1) (.bool y.2)
  rw [← hw2] at hY ⊢
  have hF2 : Fr0 W w2 := by rw [hw2]; exact hF1.alloc _
  have hf2 : Fr0 w1 w2 := by rw [hw2]; exact fr_alloc _ _ _
  have hs1 := hF0.size
  have hs2 := hf1.size
  rw [World.size_alloc, World.size_alloc] at hs1 hs2
  clear hw2 c0 d0 d1
  have hD := hF2.drew
  have c0 := (HB.out.fr0 hD).c0
  have z0 := ((hf1.trans0 hf2).drew).cell Z2.out.1 (fun x => x)
  have z1 := ((hf1.trans0 hf2).drew).cell Z2.out.2 (fun x => x)
  have hRD := HR.out.fr hD (fun x => x)
  have d0 := hRD.c0 (i := top) (by omega)
  have d1 := hRD.c1 (i := top) (by omega)
  have f0 := hRD.fz (top * 2)
  have f1 := hRD.fz (top * 2 + 1)
  have hR2 := HR.out.fr hF2 (fun x => x)
  have d0' := hR2.c0 (i := top) (by omega)
  have d1' := hR2.c1 (i := top) (by omega)
  have f0' := hR2.fz (top * 2)
  have f1' := hR2.fz (top * 2 + 1)
  go_region
  obtain ⟨w3, hw3⟩ : ∃ w3, w3 = ((w2.setCell ⟨rb, top * 2, none⟩ (.int .i64 0)).setCell ⟨rb, top * 2 + 1, none⟩ (.bool false)).drew := ⟨_, rfl⟩
  have hf3 : Fr (fun k => k = rb) w2 w3 := by rw [hw3]; exact ((fr_setCell (S := fun k => k = rb) w2 ⟨rb, top * 2, none⟩ (.int .i64 0) (fun _ => rfl)).setCell ⟨rb, top * 2 + 1, none⟩ (.bool false) (fun _ => rfl)).drew
  have hR3 : SptRow w3 rb (vs.set top (0, false)) := by rw [hw3]; exact (hR2.set (i := top) (by omega) (0, false)).fr (fr_drew (fun _ => False) _) (fun x => x)
  rw [← hw3]
  clear hw3 c0 z0 z1 hRD d0 d1 f0 f1 d0' d1' f0' f1' hR2
  have hD3 := (HB.out.fr0 hF2).fr hf3 hqr
  have c2 := hD3.c2
  have fq := hD3.fz (pre.length + 2)
  have HD3 := Lib.hid hD3
  obtain ⟨w4, hw4⟩ : ∃ w4, w4 = w3.setCell ⟨q, pre.length + 2, none⟩ (.int .i64 (m - 1)) := ⟨_, rfl⟩
  have hf4 : Fr (fun k => k = q) w3 w4 := by rw [hw4]; exact fr_setCell _ _ _ (fun _ => rfl)
  have hD4 := hw4 ▸ HD3.out.set2 (m - 1)
  have HW4 := Lib.hid hw4
  have e0 := hf4.cell (hf3.cell hY.1 (by simp only; omega)) (by simp only; omega)
  have e1 := hf4.cell (hf3.cell hY.2 (by simp only; omega)) (by simp only; omega)
  have y0 := hf4.cell (hf3.cell ((((fr_alloc (fun _ => False) _ _).trans0 hf1).trans0 hf2).cell Z.out.1 (fun x => x)) (by simp only; omega)) (by simp only; omega)
  have y1 := hf4.cell (hf3.cell ((((fr_alloc (fun _ => False) _ _).trans0 hf1).trans0 hf2).cell Z.out.2 (fun x => x)) (by simp only; omega)) (by simp only; omega)
  have hbk := hf4.heap (hf3.heap ((((fr_alloc (fun _ => False) _ _).trans0 hf1).trans0 hf2).heap (World.alloc_heap_new W (.cells #[.int .i64 0, .bool false] 63)) (fun x => x)) (by omega)) (by omega)
  have x0 : w4.frozen? ⟨W.heap.size, 0, none⟩ = false := by simp [World.frozen?, hbk]
  have x1 : w4.frozen? ⟨W.heap.size, 1, none⟩ = false := by simp [World.frozen?, hbk]
  clear hbk
  rw [hw4] at e0 e1 y0 y1 x0 x1
  go_wp2_with fail
  (try simp only [Exit.inBlock, Exit.then])
  refine bodyPost_ret (v := sptE y) ?_ rfl ?_
  · simp only [results, show Tryd.f54.results = #[ResultVar.cell 4 63] from rfl]
    unfold sptE
    go_simp
  · rw [← HW4.out]
    have hf5 : Fr (fun k => k = W.heap.size) w4 ((w4.setCell ⟨W.heap.size, 0, none⟩ (.int .i64 y.1)).setCell ⟨W.heap.size, 1, none⟩ (.bool y.2)) := (fr_setCell (S := fun k => k = W.heap.size) w4 ⟨W.heap.size, 0, none⟩ (.int .i64 y.1) (fun _ => rfl)).setCell ⟨W.heap.size, 1, none⟩ (.bool y.2) (fun _ => rfl)
    have hR4 := hR3.fr hf4 (fun e => hqr e.symm)
    refine ⟨_, rfl, by rw [HY.out], (((hF2.mono (fun _ _ x => x.elim)).trans hf3 (fun _ _ e => .inr e)).trans hf4 (fun _ _ e => .inl e)).trans hf5 (fun j hj e => absurd e (by omega)), hD4.fr hf5 (by omega), hR4.fr hf5 (by omega)⟩
/-- A ring inside a struct, at spots: what it holds. -/
structure IsDqS (W : World) (B q ty : Nat) (pre post : List Value) (A : Option Addr) (N top : Nat) (vs l : List (Int × Bool)) : Prop where
  blk : DqBlk W q ty pre post (.slice A N N) top l.length
  ring : (A = none ∧ N = 0 ∧ top = 0 ∧ vs = [] ∧ l = []) ∨ (∃ rb, A = some ⟨rb, 0, none⟩ ∧ B ≤ rb ∧ q ≠ rb ∧ SptRow W rb vs ∧ vs.length = N ∧ top < N ∧ l.length ≤ N ∧ ∀ j, j < l.length → vs.getD ((top + j) % N) (0, false) = l.getD j (0, false))
theorem IsDqS.fr0 {W W' : World} {B q ty N top : Nat} {pre post : List Value} {A : Option Addr} {vs l : List (Int × Bool)} (h : IsDqS W B q ty pre post A N top vs l) (f : Fr0 W W') : IsDqS W' B q ty pre post A N top vs l :=
  ⟨h.blk.fr0 f, h.ring.imp id (fun ⟨rb, e, h1, h2, h3, h4⟩ => ⟨rb, e, h1, h2, h3.fr f (fun x => x), h4⟩)⟩
def StealS (W : World) (B q ty : Nat) (pre post : List Value) (A : Option Addr) (N : Nat) (l : List (Int × Bool)) (v : Value) (w' : World) : Prop :=
  Fr (fun k => k = q ∨ A = some ⟨k, 0, none⟩) W w' ∧ ((l = [] ∧ v = .tuple #[sptE (0, false), .bool false] ∧ ∃ top vs, IsDqS w' B q ty pre post A N top vs []) ∨ (∃ x r, l = x :: r ∧ v = .tuple #[sptE x, .bool true] ∧ ∃ top' vs', IsDqS w' B q ty pre post A N top' vs' r))
set_option maxHeartbeats 4000000 in
theorem DStealS_no {W : World} {B q ty N top : Nat} {pre post : List Value} {A : Option Addr} {vs : List (Int × Bool)} (h : IsDqS W B q ty pre post A N top vs []) :
    Calls Tryd.prog 36 #[.pointer (some ⟨q, pre.length, none⟩)] W (Rets (StealS W B q ty pre post A N [])) := by
  have hF0 : Fr0 W ((W.alloc (.cells #[.int .i64 0, .bool false] 63)).alloc (.cells #[.int .i64 0, .bool false] 63)) := (fr_alloc _ _ _).alloc _
  have HL := Lib.hid (DLenS_is (h.blk.fr0 hF0))
  have HD := Lib.hid h
  have z := two_spt W (.int .i64 0) (.bool false)
  have z2 := two_spt (W.alloc (.cells #[.int .i64 0, .bool false] 63)) (.int .i64 0) (.bool false)
  rw [World.size_alloc] at z2
  have y0 := (fr_alloc (fun _ => False) _ (.cells #[.int .i64 0, .bool false] 63)).cell z.1 (fun x => x)
  have y1 := (fr_alloc (fun _ => False) _ (.cells #[.int .i64 0, .bool false] 63)).cell z.2 (fun x => x)
  obtain ⟨e0, e1⟩ := z2
  clear h z
  go_enter Tryd.func36, Tryd.ntmps36
  go_wp2_with (go_at_call 53; refine (HL.out).mono ?_; rintro e w' ⟨rfl, rfl⟩)
  (try simp only [Exit.inBlock, Exit.then])
  refine bodyPost_ret (v := .tuple #[sptE (0, false), .bool false]) ?_ rfl ?_
  · simp only [results, show Tryd.f36.results = #[ResultVar.cell 2 63, ResultVar.tmp 3] from rfl]
    unfold sptE
    go_simp
  · exact ⟨_, rfl, hF0.mono (fun _ _ x => x.elim), .inl ⟨rfl, rfl, top, vs, HD.out.fr0 hF0⟩⟩
set_option maxHeartbeats 4000000 in
theorem DStealS_yes {W : World} {B q ty N top : Nat} {pre post : List Value} {A : Option Addr} {vs r : List (Int × Bool)} {x : Int × Bool} (h : IsDqS W B q ty pre post A N top vs (x :: r)) (hN : N ≤ 10000000) :
    Calls Tryd.prog 36 #[.pointer (some ⟨q, pre.length, none⟩)] W (Rets (StealS W B q ty pre post A N (x :: r))) := by
  rcases h.ring with ⟨_, _, _, _, e⟩ | ⟨rb, rfl, hBr, hqr, hr, hvl, htop, hln, hat⟩
  · cases e
  have hF0 : Fr0 W ((W.alloc (.cells #[.int .i64 0, .bool false] 63)).alloc (.cells #[.int .i64 0, .bool false] 63)) := (fr_alloc _ _ _).alloc _
  have HL := Lib.hid (DLenS_is (h.blk.fr0 hF0))
  have hml : (((x :: r).length : Nat) : Int) ≤ 100000000 := by omega
  have hmp : (0 : Int) < (((x :: r).length : Nat) : Int) := by
    have h0 : 0 < (x :: r).length := by simp
    omega
  have HT := Lib.hid (DTakeS_is (h.blk.fr0 hF0) hmp hml (hr.fr hF0 (fun x => x)) hvl htop (by omega) hqr)
  have hx : vs.getD top (0, false) = x := by
    have := hat 0 (by simp)
    rw [Nat.add_zero, Nat.mod_eq_of_lt htop] at this
    rw [this]; rfl
  have HX := Lib.hid hx
  have HATS := Lib.hid hat
  have hnz : ((((x :: r).length : Nat) : Int) == 0) = false := by rw [beq_eq_false_iff_ne]; omega
  have hm1 : ((((x :: r).length : Nat) : Int) - 1) = ((r.length : Nat) : Int) := by simp
  have HM1 := Lib.hid hm1
  have hql := h.blk.lt
  have hrl : rb < W.heap.size := heap_lt hr
  have HV := Lib.hid hvl
  have hz := World.alloc_heap_new W (.cells #[.int .i64 0, .bool false] 63)
  have hz2 := (fr_alloc (fun _ => False) _ (.cells #[.int .i64 0, .bool false] 63)).heap hz (fun x => x)
  have HZ := Lib.hid hz2
  generalize hmm : (((x :: r).length : Nat) : Int) = m at HL HT hnz hmp hml HM1
  clear h hr hx hat hm1 hvl hz hz2
  unfold TakeS at HT
  have hlr : r.length + 1 ≤ N := hln
  go_enter Tryd.func36, Tryd.ntmps36
  go_upto_region 5 with (first
    | (go_at_call 54; refine (HT.out).mono ?_; rintro e w1 ⟨_, rfl, rfl, hf1, hb1, hr1⟩; rw [HX.out]; unfold sptE)
    | (go_at_call 53; refine (HL.out).mono ?_; rintro e w' ⟨rfl, rfl⟩))
  rw [HM1.out] at hb1
  obtain ⟨w2, hw2⟩ : ∃ w2, w2 = w1.alloc (.cells #[.int .i64 x.1, .bool x.2] 63) := ⟨_, rfl⟩
  have hY := two_spt w1 (.int .i64 x.1) (.bool x.2)
  rw [← hw2] at hY ⊢
  have hf2 : Fr0 w1 w2 := by rw [hw2]; exact fr_alloc _ _ _
  have hs0 := hF0.size
  have hs1 := hf1.size
  rw [World.size_alloc, World.size_alloc] at hs0 hs1
  clear hw2
  have HA := Lib.hid (DAtS_c (hb1.fr0 hf2).c0 (hb1.fr0 hf2).c1 (by omega) (by omega) (by omega) (k := 1) (by omega))
  have HB2 := Lib.hid (hb1.fr0 hf2)
  have HR2 := Lib.hid (hr1.fr hf2 (fun x => x))
  clear hb1 hr1
  generalize hix : (top + 1) % N = ix at HA
  have hixN : ix < N := by rw [← hix]; exact Nat.mod_lt _ (by omega)
  have HIX := Lib.hid hix
  clear hix
  have hW2 : Fr (fun k => k = q ∨ k = rb) W w2 := ((hF0.mono (fun _ _ x => x.elim)).trans hf1 (fun _ _ e => e)).trans0 hf2
  have hz2 := hf2.heap (hf1.heap HZ.out (by omega)) (fun x => x)
  go_upto_region 6 with (go_at_call 55; refine (HA.out).mono ?_; rintro e w3 ⟨_, rfl, rfl, hf3⟩; have q1 := (HB2.out.fr0 hf3).c1; have fq1 := (HB2.out.fr0 hf3).fz (pre.length + 1))
  obtain ⟨w4, hw4⟩ : ∃ w4, w4 = w3.setCell ⟨q, pre.length + 1, none⟩ (.int .i64 (ix : Int)) := ⟨_, rfl⟩
  have hf4 : Fr (fun k => k = q) w3 w4 := by rw [hw4]; exact fr_setCell _ _ _ (fun _ => rfl)
  have hD4 := hw4 ▸ (HB2.out.fr0 hf3).set1 (ix : Int)
  rw [← hw4]
  clear hw4 q1 fq1
  have e0 := hf4.cell (hf3.cell hY.1 (fun x => x)) (by simp only; omega)
  have e1 := hf4.cell (hf3.cell hY.2 (fun x => x)) (by simp only; omega)
  have hbk := hf4.heap (hf3.heap hz2 (fun x => x)) (by omega)
  have y0 : w4.cell? ⟨W.heap.size, 0, none⟩ = some (.int .i64 0) := by unfold World.cell?; rw [hbk]; rfl
  have y1 : w4.cell? ⟨W.heap.size, 1, none⟩ = some (.bool false) := by unfold World.cell?; rw [hbk]; rfl
  have x0 : w4.frozen? ⟨W.heap.size, 0, none⟩ = false := by simp [World.frozen?, hbk]
  have x1 : w4.frozen? ⟨W.heap.size, 1, none⟩ = false := by simp [World.frozen?, hbk]
  clear hbk hz2 hY
  go_wp2_with fail
  (try simp only [Exit.inBlock, Exit.then])
  refine bodyPost_ret (v := .tuple #[sptE x, .bool true]) ?_ rfl ?_
  · simp only [results, show Tryd.f36.results = #[ResultVar.cell 2 63, ResultVar.tmp 3] from rfl]
    unfold sptE
    go_simp
  · have hf5 : Fr (fun k => k = W.heap.size) w4 ((w4.setCell ⟨W.heap.size, 0, none⟩ (.int .i64 x.1)).setCell ⟨W.heap.size, 1, none⟩ (.bool x.2)) := (fr_setCell (S := fun k => k = W.heap.size) w4 ⟨W.heap.size, 0, none⟩ (.int .i64 x.1) (fun _ => rfl)).setCell ⟨W.heap.size, 1, none⟩ (.bool x.2) (fun _ => rfl)
    have hR4 := (HR2.out.fr hf3 (fun x => x)).fr hf4 (fun e => hqr e.symm)
    refine ⟨_, rfl, ?_, .inr ⟨x, r, rfl, rfl, ix, vs.set top (0, false), hD4.fr hf5 (by omega), .inr ⟨rb, rfl, hBr, hqr, hR4.fr hf5 (by omega), by rw [List.length_set]; exact HV.out, hixN, by omega, fun j hj => ?_⟩⟩⟩
    · refine ((((hW2.mono (fun _ _ e => ?_)).trans0 hf3).trans hf4 (fun _ _ e => .inl e)).trans hf5 (fun j hj e => absurd e (by omega)))
      rcases e with e | e
      · exact .inl e
      · exact .inr (by rw [e])
    · have h1 := HATS.out (j + 1) (by simp; omega)
      have e2 : (ix + j) % N = (top + (j + 1)) % N := by rw [← HIX.out, Nat.mod_add_mod]; congr 1; omega
      have hne : top ≠ (top + (j + 1)) % N := by
        intro e
        have h3 := Nat.div_add_mod (top + (j + 1)) N
        rw [← e] at h3
        have : N * ((top + (j + 1)) / N) = j + 1 := by omega
        rcases Nat.eq_zero_or_pos ((top + (j + 1)) / N) with h4 | h4
        · rw [h4] at this; omega
        · have : N * 1 ≤ N * ((top + (j + 1)) / N) := Nat.mul_le_mul_left _ h4
          omega
      rw [e2, List.getD_eq_getElem?_getD, List.getElem?_set_ne hne, ← List.getD_eq_getElem?_getD, h1]
      rfl
end Go.Proofs.YtdcjfpjpboafnaaDoor
namespace Go.Proofs.YtdcjfpjpboafnaaDoor
set_option linter.all false
open Go.RowKit
set_option maxRecDepth 100000

theorem info_spt : (Tryd.prog.info? 63).map (fun i => (i.zero, i.size, i.bytes)) = some (some (.agg #[.int .i64 0, .bool false]), 2, 16) := by kernel_rfl
theorem sptCells_snoc (l : List (Int × Bool)) (x : Int × Bool) : sptCells (l ++ [x]) = sptCells l ++ [.int .i64 x.1, .bool x.2] := by simp [sptCells]
theorem sptCells_app (l m : List (Int × Bool)) : sptCells (l ++ m) = sptCells l ++ sptCells m := by simp [sptCells]
theorem sptCells_one (l : List (Int × Bool)) : ∀ u ∈ sptCells l, u.oneCell' = true := by
  intro u hu
  simp only [sptCells, List.mem_flatMap] at hu
  obtain ⟨a, _, h⟩ := hu
  simp at h
  rcases h with rfl | rfl <;> rfl
theorem sptCells_inj : ∀ {l m : List (Int × Bool)}, sptCells l = sptCells m → l = m
  | [], [], _ => rfl
  | [], y :: m, h => by simp [sptCells] at h
  | x :: l, [], h => by simp [sptCells] at h
  | x :: l, y :: m, h => by
    simp only [sptCells, List.flatMap_cons, List.cons_append, List.nil_append, List.cons.injEq, Value.int.injEq, Value.bool.injEq, true_and] at h
    obtain ⟨h1, h2, h3⟩ := h
    rw [sptCells_inj (l := l) (m := m) h3, Prod.ext h1 h2]
/-- A row of spots, where a slice's value says. -/
def SptsAt (W : World) (A : Option Addr) (l : List (Int × Bool)) : Prop :=
  l.length ≤ 17592186044416 ∧ (l = [] ∨ ∃ b o, A = some ⟨b, o, none⟩ ∧ ∀ j, j < l.length → W.cell? ⟨b, o + j * 2, none⟩ = some (.int .i64 (l.getD j (0, false)).1) ∧ W.cell? ⟨b, o + j * 2 + 1, none⟩ = some (.bool (l.getD j (0, false)).2))
section
variable {W W' : World} {A : Option Addr} {l : List (Int × Bool)}
theorem SptsAt.grow {B : Nat} (h : SptsAt W A l) (f : Grow B W W') : SptsAt W' A l := by
  refine ⟨h.1, h.2.imp id ?_⟩
  rintro ⟨b, o, e, hc⟩
  exact ⟨b, o, e, fun j hj => ⟨f.cell (hc j hj).1, f.cell (hc j hj).2⟩⟩
theorem SptsAt.fr0 (h : SptsAt W A l) (f : Fr0 W W') : SptsAt W' A l := h.grow (Fr0.grow f 0)
theorem SptsAt.fr {S : Nat → Prop} (h : SptsAt W A l) (f : Fr S W W') (hs : ∀ b o, A = some ⟨b, o, none⟩ → l ≠ [] → ¬ S b) : SptsAt W' A l := by
  refine ⟨h.1, ?_⟩
  by_cases h0 : l = []
  · exact .inl h0
  · rcases h.2 with e | ⟨b, o, e, hc⟩
    · exact absurd e h0
    · exact .inr ⟨b, o, e, fun j hj => ⟨f.cell (hc j hj).1 (hs b o e h0), f.cell (hc j hj).2 (hs b o e h0)⟩⟩
theorem SptsAt.at_ (h : SptsAt W A l) {j : Nat} (hj : j < l.length) : ∃ b o, A = some ⟨b, o, none⟩ ∧ W.cell? ⟨b, o + j * 2, none⟩ = some (.int .i64 (l.getD j (0, false)).1) ∧ W.cell? ⟨b, o + j * 2 + 1, none⟩ = some (.bool (l.getD j (0, false)).2) := by
  rcases h.2 with e | ⟨b, o, e, hc⟩
  · subst e; cases hj
  · exact ⟨b, o, e, hc j hj⟩
theorem SptsAt.nil (W : World) (A : Option Addr) : SptsAt W A [] := ⟨by simp, .inl rfl⟩
theorem own_spts {B c : Nat} (h : W.ownsRow B 63 2 (.slice A l.length c) l.length (sptCells l)) (hlen : l.length ≤ 17592186044416) : SptsAt W A l := by
  refine ⟨hlen, ?_⟩
  rcases h.2 with ⟨_, e⟩ | ⟨g, cap, cur, e, hg, hh, h1, h2, h3, h4⟩
  · left; exact List.length_eq_zero_iff.1 e
  · cases e
    refine .inr ⟨g, 0, rfl, fun j hj => ?_⟩
    obtain ⟨g1, g2⟩ := sptCells_get l j hj
    have e : l.getD j (0, false) = l[j] := by simp [List.getD_eq_getElem?_getD, List.getElem?_eq_getElem hj]
    rw [e, Nat.zero_add]
    constructor
    · rw [← g1, ← h4]
      simp only [World.cell?, hh]
      rw [List.getElem?_take_of_lt (by omega), Array.getElem?_toList]
      simp
    · rw [← g2, ← h4]
      simp only [World.cell?, hh]
      rw [List.getElem?_take_of_lt (by omega), Array.getElem?_toList]
      simp
theorem spts_news {b o : Nat} (h : SptsAt W (some ⟨b, o, none⟩) l) : ∀ j u, (sptCells l)[j]? = some u → W.cell? ((⟨b, o, none⟩ : Addr).add j) = some u := by
  intro j u hu
  have hj := (List.getElem?_eq_some_iff.1 hu).1
  rw [sptCells_len] at hj
  have hi : j / 2 < l.length := by omega
  obtain ⟨b', o', e, c1, c2⟩ := h.at_ hi
  injection e with e
  injection e with e1 e2 _
  subst e1
  subst e2
  have e2 : (⟨b, o, none⟩ : Addr).add j = ⟨b, o + j, none⟩ := by simp [Addr.add]
  obtain ⟨g1, g2⟩ := sptCells_get l (j / 2) hi
  have e : l.getD (j / 2) (0, false) = l[j / 2] := by simp [List.getD_eq_getElem?_getD, List.getElem?_eq_getElem hi]
  rw [e] at c1 c2
  rw [e2]
  rcases Nat.mod_two_eq_zero_or_one j with hm | hm
  · have ej : j / 2 * 2 = j := by omega
    rw [ej] at c1 g1
    rw [c1, ← hu, g1]
  · have ej : j / 2 * 2 + 1 = j := by omega
    rw [Nat.add_assoc, ej] at c2
    rw [ej] at g2
    rw [c2, ← hu, g2]
theorem take_snoc_sp (l : List (Int × Bool)) (j : Nat) (h : j < l.length) : l.take (j + 1) = l.take j ++ [l.getD j (0, false)] := by
  rw [List.take_succ_eq_append_getElem h]; simp [List.getD_eq_getElem?_getD, List.getElem?_eq_getElem h]
end
/-- A row of spots is handed back, in new memory. -/
def SptsPost (w : World) (l : List (Int × Bool)) (v : Value) (w' : World) : Prop := Fr0 w w' ∧ w'.ownsRow w.heap.size 63 2 v l.length (sptCells l)
/-- A row of one's own, as it is gathered in a variable. -/
def ColS (w : World) (K : World → Prop) (B t : Nat) (pre : List (Int × Bool)) (W : World) : Prop := Fr0 w W ∧ K W ∧ ∃ v, Box W B t v ∧ W.ownsRow w.heap.size 63 2 v pre.length (sptCells pre)
theorem ColS.grow {w : World} {K : World → Prop} {B t : Nat} {B' : Nat} (hB : w.heap.size ≤ B') (hK : ∀ W W', K W → Grow B' W W' → K W') (pre : List (Int × Bool)) (W W' : World) (h : ColS w K B t pre W) (hG : Grow B' W W') : ColS w K B t pre W' := by
  obtain ⟨h1, h2, v, h3, h4⟩ := h
  exact ⟨Fr.andGrow h1 hG hB, hK _ _ h2 hG, v, h3.grow hG, own_grow h4 hG⟩
theorem run_append_spts {w : World} {B : Nat} {v : Value} {xs ys : List (Int × Bool)} (hown : w.ownsRow B 63 2 v xs.length (sptCells xs)) {A : Option Addr} {c : Nat} (hy : SptsAt w A ys) (hp : Plain A ys.length c)
    (hb : (xs.length + ys.length) * 16 ≤ 140737488355328) (hB : B ≤ w.heap.size) (ty : Nat) :
    ∃ v' w', (Builtin.append_ #[72, 72] ty #[v, .slice A ys.length c]).run Tryd.prog w = .ok v' w' ∧ w'.ownsRow B 63 2 v' (xs ++ ys).length (sptCells (xs ++ ys)) ∧ w.grownBy w' v.ownBlock := by
  obtain ⟨i0, hi, hz0, hz1, hz2⟩ := info_parts info_spt
  have e : sptCells xs ++ sptCells ys = sptCells (xs ++ ys) := (sptCells_app xs ys).symm
  have el : xs.length + ys.length = (xs ++ ys).length := by simp
  cases A with
  | none =>
    obtain ⟨h1, h2⟩ := hp rfl
    have := List.eq_nil_of_length_eq_zero h1
    subst this
    subst h2
    refine ⟨v, w, run_append_owned_none w B 72 ty 63 i0 2 Tryd.underlying72 hi v xs.length (sptCells xs) hown, by simpa using hown, ⟨rfl, rfl, rfl, Nat.le_refl _, fun _ _ _ => rfl⟩⟩
  | some ad =>
    have hnews : ∀ j u, (sptCells ys)[j]? = some u → w.cell? (ad.add j) = some u := by
      rcases hy.2 with e | ⟨b, o, e, _⟩
      · subst e; intro j u hu; simp [sptCells] at hu
      · cases e; exact spts_news hy
    obtain ⟨v', w', hr, h2, h3, _⟩ := run_append_own (P := Tryd.prog) (w := w) B 72 ty 63 i0 _ 2 16 Tryd.underlying72 hi hz0 hz1 hz2 rfl (by decide) v xs.length (sptCells xs) hown ad ys.length c (sptCells ys) (sptCells_len ys) hnews (sptCells_one ys) (by unfold maxLen; omega) hb hB
    exact ⟨v', w', hr, by rw [e, el] at h2; exact h2, h3⟩
section
variable {ops : Array Oper} {rest : List Oper} {o : Oper} {a : Act} {w : World} {Q : Exit → Act → World → Prop} {K : Act → World → Prop} {E : Prop}
theorem wpList_append_spts (hgd : o.guard = none) (s x : Operand) (ho : o.op = .call { callee := .builtin .append, args := #[s, x], argTypes := #[72, 72] })
    {B c : Nat} {A : Option Addr} {v : Value} {xs ys : List (Int × Bool)} (hs : a.eval s = v) (hx : a.eval x = .slice A ys.length c) (hp : Plain A ys.length c) (hb : (xs.length + ys.length) * 16 ≤ 140737488355328)
    (hB : B ≤ w.heap.size) (hown : w.ownsRow B 63 2 v xs.length (sptCells xs)) (hy : SptsAt w A ys)
    (h : ∀ v' w', w'.ownsRow B 63 2 v' (xs ++ ys).length (sptCells (xs ++ ys)) → Fr (fun k => v.ownBlock = some k) w w' → wpList Tryd.prog ops Q rest (a.put o.dst v') w') :
    wpList Tryd.prog ops Q (o :: rest) a w := by
  obtain ⟨v', w', hr, h1, h2⟩ := run_append_spts hown hy hp hb hB o.type
  exact wpList_append_run hgd s x _ ho hs hx hr (h v' w' h1 (append_fr0 hown h2))
theorem step_append_spts (hgd : o.guard = none) (s x : Operand) (ho : o.op = .call { callee := .builtin .append, args := #[s, x], argTypes := #[72, 72] })
    {B c : Nat} {A : Option Addr} {v : Value} {xs ys : List (Int × Bool)} (hs : a.eval s = v) (hx : a.eval x = .slice A ys.length c) (hp : Plain A ys.length c) (hb : (xs.length + ys.length) * 16 ≤ 140737488355328)
    (hB : B ≤ w.heap.size) (hown : w.ownsRow B 63 2 v xs.length (sptCells xs)) (hy : SptsAt w A ys)
    (h : ∀ v' w', w'.ownsRow B 63 2 v' (xs ++ ys).length (sptCells (xs ++ ys)) → Fr (fun k => v.ownBlock = some k) w w' → K (a.put o.dst v') w') :
    if Region.wanted o (yielded ops a.tmps) = true then Oper.wp Tryd.prog o a w K Q else E := by
  obtain ⟨v', w', hr, h1, h2⟩ := run_append_spts hown hy hp hb hB o.type
  exact step_append_run hgd s x _ ho hs hx hr (h v' w' h1 (append_fr0 hown h2))
theorem run_copy_spts (w : World) (ty g n c : Nat) (A : Option Addr) (zs ys : List (Int × Bool)) (hg : SptRow w g zs) (hzl : zs.length = n) (hle : ys.length ≤ n) (hy : SptsAt w A ys) :
    ∃ w', (Builtin.copy_ #[72, 72] ty #[.slice (some ⟨g, 0, none⟩) n n, .slice A ys.length c]).run Tryd.prog w = .ok (goInt ys.length) w' ∧ SptRow w' g (ys ++ zs.drop ys.length) ∧ Fr (fun k => k = g) w w' := by
  obtain ⟨i0, hi, hz0, hz1, hz2⟩ := info_parts info_spt
  have hmn : Nat.min ys.length n = ys.length := Nat.min_eq_left hle
  by_cases h0 : ys = []
  · subst h0
    refine ⟨w, ?_, by simpa using hg, Fr.refl _ _⟩
    cases A with
    | none => simp [Builtin.copy_, run_underlying Tryd.underlying72, Builtin.lenOf, Builtin.firstCells, sizeOf, typeInfo, hi, loadCells, loadCellsFrom, storeCells]
    | some ad => simp [Builtin.copy_, run_underlying Tryd.underlying72, Builtin.lenOf, Builtin.firstCells, sizeOf, typeInfo, hi, loadCells, loadCellsFrom, storeCells]
  · obtain ⟨b, o', rfl⟩ : ∃ b o, A = some ⟨b, o, none⟩ := by
      rcases hy.2 with e | ⟨b, o, e, _⟩
      · exact absurd e h0
      · exact ⟨b, o, e⟩
    have hl := run_loadCells_list (P := Tryd.prog) w ⟨b, o', none⟩ (sptCells ys) (spts_news hy)
    rw [sptCells_len] at hl
    have hst := run_storeCells_at Tryd.prog g 0 63 (sptCells ys) 0 (sptCells zs).toArray w hg (by simp [sptCells_len]; omega) (sptCells_one ys)
    have e2 : ((sptCells zs).toArray.toList.take (0 + 0) ++ sptCells ys ++ (sptCells zs).toArray.toList.drop (0 + 0 + (sptCells ys).length)).toArray = (sptCells (ys ++ zs.drop ys.length)).toArray := by
      have : ∀ (l : List (Int × Bool)) (k : Nat), (sptCells l).drop (k * 2) = sptCells (l.drop k) := by
        intro l
        induction l with
        | nil => intro k; simp [sptCells]
        | cons x l ih =>
          intro k
          cases k with
          | zero => simp
          | succ k =>
            have := ih k
            rw [show (k + 1) * 2 = k * 2 + 2 by omega]
            simpa [sptCells] using this
      rw [sptCells_app, ← this, sptCells_len]
      simp
    rw [e2] at hst
    have hmn2 : min ys.length n = ys.length := hmn
    refine ⟨w.setRow g (sptCells (ys ++ zs.drop ys.length)).toArray, ?_, setRow_heap w g _ _ _ _ hg, ?_⟩
    · simp [Builtin.copy_, run_underlying Tryd.underlying72, Builtin.lenOf, Builtin.firstCells, sizeOf, typeInfo, hi, hz1, hmn2, hl, hst]
    · refine ⟨rfl, rfl, rfl, by simp [World.setRow], fun k hk hn => setRow_other w g k _ hn, fun k o ho hd => ?_⟩
      by_cases e : k = g
      · subst e; unfold SptRow at hg; rw [hg] at ho; cases ho; cases hd
      · rw [setRow_other w g k _ e]; exact ho
theorem wpList_copy_spts (hgd : o.guard = none) (d s : Operand) (ho : o.op = .call { callee := .builtin .copy, args := #[d, s], argTypes := #[72, 72] })
    {g n c : Nat} {A : Option Addr} {zs ys : List (Int × Bool)} (hd : a.eval d = .slice (some ⟨g, 0, none⟩) n n) (hs : a.eval s = .slice A ys.length c) (hg : SptRow w g zs) (hzl : zs.length = n) (hle : ys.length ≤ n) (hy : SptsAt w A ys)
    (h : ∀ w', SptRow w' g (ys ++ zs.drop ys.length) → Fr (fun k => k = g) w w' → wpList Tryd.prog ops Q rest (a.put o.dst (goInt ys.length)) w') : wpList Tryd.prog ops Q (o :: rest) a w := by
  obtain ⟨w', hr, h1, h2⟩ := run_copy_spts w o.type g n c A zs ys hg hzl hle hy
  refine wpList_plain hgd fun K hK => ?_
  unfold Oper.wp
  simp [execOp, ho, resolve, invoke, builtin, hd, hs, hr, Result.andThen]
  exact hK _ _ (h w' h1 h2)
end
theorem make_spts (c : Nat) (h1 : c ≤ 1000000000) (w : World) : (Instr.makeSlice 72 (.int .i64 c) (.int .i64 c)).run Tryd.prog w =
    .ok (.slice (some ⟨w.heap.size, 0, none⟩) c c) (w.alloc (.cells (sptCells (List.replicate c (0, false))).toArray 63)) := by
  obtain ⟨i0, hi, hz0, hz1, hz2⟩ := info_parts info_spt
  rw [run_make (P := Tryd.prog) w 72 63 i0 _ Tryd.underlying72 hi hz0 .i64 .i64 c c (by omega) (Int.le_refl _) (by rw [hz2]; omega) (by omega), hz1]
  have : madeCells (Value.agg #[.int .i64 0, .bool false]).cells ((c : Int).toNat * 2) = (sptCells (List.replicate c (0, false))).toArray := by
    apply Array.ext'
    simp only [madeCells, Value.cells]
    apply List.ext_getElem?
    intro i
    by_cases hic : i < c * 2
    · have hl : (sptCells (List.replicate c ((0 : Int), false))).length = c * 2 := by rw [sptCells_len, List.length_replicate]
      obtain ⟨g1, g2⟩ := sptCells_get (List.replicate c ((0 : Int), false)) (i / 2) (by rw [List.length_replicate]; omega)
      rcases Nat.mod_two_eq_zero_or_one i with hm | hm
      · rw [show i / 2 * 2 = i by omega] at g1
        rw [g1]
        simp [hic, hm]
      · rw [show i / 2 * 2 + 1 = i by omega] at g2
        rw [g2]
        simp [hic, hm]
    · have hl : (sptCells (List.replicate c ((0 : Int), false))).length = c * 2 := by rw [sptCells_len, List.length_replicate]
      rw [List.getElem?_eq_none (by simp; omega), List.getElem?_eq_none (by simp [hl]; omega)]
  rw [this]
  simp
end Go.Proofs.YtdcjfpjpboafnaaDoor
