/- The graph: New. -/
import Derived.Test.YtdcjfpjpboafnaaDoorStable
import Derived.Deep.RegionWith
import Derived.Deep.DeepCutAuto
import Derived.Laws.EntriesVeiled
namespace Go.Proofs.YtdcjfpjpboafnaaDoor
set_option linter.all false
open Go.RowKit
set_option maxRecDepth 100000

def natVs (vs : List Nat) : Array Value := (vs.map (fun x : Nat => Value.int .i64 (x : Int))).toArray
def IntArr (W : World) (b : Nat) (vs : List Nat) : Prop := W.heap[b]? = some (.cells (natVs vs) 3 (0, 0))
theorem IntArr.cell {W : World} {b : Nat} {vs : List Nat} (h : IntArr W b vs) {i : Nat} (hi : i < vs.length) : W.cell? ⟨b, i, none⟩ = some (.int .i64 (vs.getD i 0 : Nat)) := by
  unfold IntArr at h
  simp only [World.cell?, h]
  simp [natVs, List.getElem?_eq_getElem hi, List.getD_eq_getElem?_getD]
theorem IntArr.frozen {W : World} {b : Nat} {vs : List Nat} (h : IntArr W b vs) (o : Nat) : W.frozen? ⟨b, o, none⟩ = false := by
  unfold IntArr at h
  simp [World.frozen?, h]
theorem IntArr.set {W : World} {b : Nat} {vs : List Nat} (h : IntArr W b vs) (i x : Nat) : IntArr (W.setCell ⟨b, i, none⟩ (.int .i64 (x : Int))) b (vs.set i x) := by
  unfold IntArr at h ⊢
  rw [heap_setCell_same h]
  simp [natVs, List.map_set]
theorem info_int2 : (Tryd.prog.info? 3).map (fun i => (i.zero, i.size, i.bytes)) = some (some (.int .i64 0), 1, 8) := by kernel_rfl
theorem make_ints (c : Nat) (h1 : c ≤ 2000) (w : World) : (Instr.makeSlice 33 (.int .i64 c) (.int .i64 c)).run Tryd.prog w =
    .ok (.slice (some ⟨w.heap.size, 0, none⟩) c c) (w.alloc (.cells (natVs (List.replicate c 0)) 3)) := by
  obtain ⟨i0, hi, hz0, hz1, hz2⟩ := info_parts info_int2
  rw [run_make (P := Tryd.prog) w 33 3 i0 (.int .i64 0) Tryd.underlying33 hi hz0 .i64 .i64 c c (by omega) (Int.le_refl _) (by rw [hz2]; omega) (by omega), hz1]
  have : madeCells (Value.int .i64 0).cells ((c : Int).toNat * 1) = natVs (List.replicate c 0) := by
    apply Array.ext'
    simp only [madeCells, natVs, Value.cells, Nat.mul_one]
    apply List.ext_getElem
    · simp
    · intro i h1 h2
      simp [Nat.mod_one]
  rw [this]
  simp
/-- How many arcs begin below v; how many at v - 1. -/
def cntF (J : List ArcI) (v : Nat) : Nat := (J.filter (fun a => decide (a.f < (v : Int)))).length
def cnt1 (J : List ArcI) (v : Nat) : Nat := (J.filter (fun a => decide (a.f + 1 = (v : Int)))).length
theorem cntF_le (J : List ArcI) (v : Nat) : cntF J v ≤ J.length := List.length_filter_le _ _
theorem cnt1_le (J : List ArcI) (v : Nat) : cnt1 J v ≤ J.length := List.length_filter_le _ _
theorem cnt1_take {J : List ArcI} {k : Nat} (h : k < J.length) (v : Nat) : cnt1 (J.take (k + 1)) v = cnt1 (J.take k) v + if (J.getD k default).f + 1 = (v : Int) then 1 else 0 := by
  rw [take_snoc_a _ _ h, cnt1, List.filter_append, List.length_append, cnt1]
  congr 1
  by_cases e : (J.getD k default).f + 1 = (v : Int) <;> simp only [e, decide_true, decide_false, List.filter_cons, List.filter_nil, if_true, if_false] <;> rfl
theorem cntF_succ (J : List ArcI) (v : Nat) : cntF J (v + 1) = cntF J v + cnt1 J (v + 1) := by
  induction J with
  | nil => rfl
  | cons a J ih =>
    simp only [cntF, cnt1, List.filter_cons] at ih ⊢
    by_cases e1 : a.f < (v : Int)
    · have e2 : a.f < ((v + 1 : Nat) : Int) := by omega
      have e3 : ¬ a.f + 1 = ((v + 1 : Nat) : Int) := by omega
      simp only [e1, e2, e3, decide_true, decide_false, if_true, List.length_cons]
      simp only [Bool.false_eq_true, if_false]
      omega
    · by_cases e3 : a.f + 1 = ((v + 1 : Nat) : Int)
      · have e2 : a.f < ((v + 1 : Nat) : Int) := by omega
        simp only [e1, e2, e3, decide_true, decide_false, if_true, List.length_cons]
        simp only [Bool.false_eq_true, if_false]
        omega
      · have e2 : ¬ a.f < ((v + 1 : Nat) : Int) := by omega
        simp only [e1, e2, e3, decide_false]
        simp only [Bool.false_eq_true, if_false]
        omega
theorem cntF_zero {J : List ArcI} (h : ∀ a ∈ J, 0 ≤ a.f) : cntF J 0 = 0 := by
  unfold cntF
  rw [List.length_eq_zero_iff, List.filter_eq_nil_iff]
  intro a ha
  have := h a ha
  simp; omega
theorem cnt1_zero {J : List ArcI} (h : ∀ a ∈ J, 0 ≤ a.f) : cnt1 J 0 = 0 := by
  unfold cnt1
  rw [List.length_eq_zero_iff, List.filter_eq_nil_iff]
  intro a ha
  have := h a ha
  simp; omega
theorem joinS_mem {out : List ArcI} {u a : ArcI} (h : a ∈ joinS out u) : (∃ b ∈ out, b.f = a.f ∧ b.t = a.t) ∨ a = u := by
  by_cases hp : 0 < out.length
  · by_cases hs : standsI (out.getD (out.length - 1) default).f (out.getD (out.length - 1) default).t u.f u.t = 0
    · rw [joinS_eq hp hs] at h
      rcases List.mem_or_eq_of_mem_set h with h | h
      · exact .inl ⟨a, h, rfl, rfl⟩
      · refine .inl ⟨out.getD (out.length - 1) default, ?_, by rw [h], by rw [h]⟩
        rw [List.getD_eq_getElem?_getD, List.getElem?_eq_getElem (by omega)]
        exact List.getElem_mem _
    · rw [joinS_ne hp hs] at h
      rcases List.mem_append.1 h with h | h
      · exact .inl ⟨a, h, rfl, rfl⟩
      · exact .inr (by simpa using h)
  · have e : out = [] := List.length_eq_zero_iff.1 (by omega)
    subst e
    exact .inr (by simpa [joinS] using h)
theorem join_mem (l : List ArcI) : ∀ (acc : List ArcI) (a : ArcI), a ∈ l.foldl joinS acc → ∃ b, (b ∈ acc ∨ b ∈ l) ∧ b.f = a.f ∧ b.t = a.t := by
  induction l with
  | nil => intro acc a h; exact ⟨a, .inl h, rfl, rfl⟩
  | cons u l ih =>
    intro acc a h
    obtain ⟨b, hb, e1, e2⟩ := ih (joinS acc u) a h
    rcases hb with hb | hb
    · rcases joinS_mem hb with ⟨c, hc, f1, f2⟩ | rfl
      · exact ⟨c, .inl hc, f1.trans e1, f2.trans e2⟩
      · exact ⟨b, .inr (List.mem_cons_self ..), e1, e2⟩
    · exact ⟨b, .inr (List.mem_cons_of_mem _ hb), e1, e2⟩
theorem joinL_mem {s : List ArcI} {a : ArcI} (h : a ∈ joinL s) : ∃ b ∈ s, b.f = a.f ∧ b.t = a.t := by
  obtain ⟨b, hb, e1, e2⟩ := join_mem s [] a h
  rcases hb with hb | hb
  · cases hb
  · exact ⟨b, hb, e1, e2⟩
theorem bad_ends {n : Int} {a : ArcI} (h : badI n a = false) : 0 ≤ a.f ∧ a.f < n ∧ 0 ≤ a.t ∧ a.t < n := by
  simp only [badI, outI, Bool.or_eq_false_iff, decide_eq_false_iff_not] at h
  omega
theorem join_ends {l s : List ArcI} {n : Nat} (hp : s.Perm (l.filter (fun a => !dropI a))) (hall : l.any (badI n) = false) : ∀ a ∈ joinL s, 0 ≤ a.f ∧ a.f < n ∧ 0 ≤ a.t ∧ a.t < n := by
  intro a ha
  obtain ⟨b, hb, e1, e2⟩ := joinL_mem ha
  have hb' := (List.mem_filter.1 (hp.mem_iff.1 hb)).1
  have := bad_ends (a := b) (n := n) (by
    cases h : badI n b with
    | false => rfl
    | true => have := List.any_eq_true.2 ⟨b, hb', h⟩; rw [hall] at this; cases this)
  rw [e1, e2] at this; exact this
/-- Where a row of arcs lies: nowhere, or in a block of arcs. -/
def ArcBlk (W : World) (A : Option Addr) : Prop := A = none ∨ ∃ b o cs, A = some ⟨b, o, none⟩ ∧ W.heap[b]? = some (.cells cs 65 (0, 0))
/-- A graph of n vertices, where its joined arcs are those of J; its places stand in ab, its arcs at A. -/
def GX (W : World) (g n : Nat) (J : List ArcI) (ab : Nat) (A : Option Addr) (c : Nat) : Prop :=
  W.heap[g]? = some (.cells #[.slice (some ⟨ab, 0, none⟩) (n + 1) (n + 1), .slice A J.length c] 97 (0, 0)) ∧ (∃ vs, IntArr W ab vs ∧ vs.length = n + 1 ∧ (∀ i, i ≤ n → vs.getD i 0 = cntF J i)) ∧ ArcsAt W A J ∧ J.length ≤ c ∧ ArcBlk W A
theorem own_blkA {W : World} {B c n : Nat} {A : Option Addr} {xs : List Value} (h : W.ownsRow B 65 3 (.slice A n c) n xs) : ArcBlk W A := by
  rcases h.2 with ⟨e, _⟩ | ⟨g, cap, cur, e, _, hh, _⟩
  · cases e; exact .inl rfl
  · cases e; exact .inr ⟨g, 0, cur, rfl, hh⟩
theorem own_arcs {W : World} {B c : Nat} {A : Option Addr} {l : List ArcI} (h : W.ownsRow B 65 3 (.slice A l.length c) l.length (arcCells l)) (hlen : l.length ≤ 17592186044416) : ArcsAt W A l := by
  rcases own_arr h with ⟨_, rfl⟩ | ⟨g, cap, tail, e, _, ha, _⟩
  · exact ⟨hlen, .inl rfl⟩
  · cases e
    exact ⟨hlen, .inr ⟨g, 0, rfl, fun j hj => by rw [Nat.zero_add]; exact ha.arc hj⟩⟩
def NewGPost (W : World) (n : Nat) (l : List ArcI) (v : Value) (w' : World) : Prop :=
  ∃ g s, v = .tuple #[.pointer (some ⟨g, 0, none⟩), .int .i64 0] ∧ Fr0 W w' ∧ W.heap.size ≤ g ∧ s.Perm (l.filter (fun a => !dropI a)) ∧ SortedOn s 0 s.length ∧ ∃ ab A c, GX w' g n (joinL s) ab A c
def NewBad (W : World) (v : Value) (w' : World) : Prop := v = .tuple #[.pointer none, .int .i64 2] ∧ Fr0 W w'
def MidG (W : World) (B n : Nat) (l : List ArcI) (v7 : Value) (wx : World) : Prop :=
  ∃ g ab v s, v7 = .pointer (some ⟨g, 0, none⟩) ∧ Fr0 W wx ∧ B ≤ g ∧ B < ab ∧ wx.heap[g]? = some (.cells #[.slice (some ⟨ab, 0, none⟩) (n + 1) (n + 1), v] 97 (0, 0)) ∧ IntArr wx ab (List.replicate (n + 1) 0) ∧
    s.Perm (l.filter (fun a => !dropI a)) ∧ SortedOn s 0 s.length ∧ wx.ownsRow B 65 3 v (joinL s).length (arcCells (joinL s))
set_option maxHeartbeats 4000000 in
theorem NewG_is {W : World} {A : Option Addr} {c : Nat} {l : List ArcI} (hl : ArcsAt W A l) (hsm : l.length * 24 ≤ 140737488355328) {n : Nat} (hn : n ≤ 1024) (hall : l.any (badI n) = false) :
    Calls Tryd.prog 27 #[.int .i64 n, .slice A l.length c] W (Rets (NewGPost W n l)) := by
  have x1 : Box (W.alloc (.cells #[.int .i64 n] 3)) W.heap.size 3 (.int .i64 n) := Box.new _ _ _
  have x2 : Box ((W.alloc (.cells #[.int .i64 n] 3)).alloc (.cells #[.func (.func 39) #[] #[.pointer (some ⟨W.heap.size, 0, none⟩)]] 31)) (W.heap.size + 1) 31 (.func (.func 39) #[] #[.pointer (some ⟨W.heap.size, 0, none⟩)]) := by
    have := Box.new (W.alloc (.cells #[.int .i64 n] 3)) 31 (.func (.func 39) #[] #[.pointer (some ⟨W.heap.size, 0, none⟩)]); rwa [World.size_alloc] at this
  have hf2 : Fr0 W ((W.alloc (.cells #[.int .i64 n] 3)).alloc (.cells #[.func (.func 39) #[] #[.pointer (some ⟨W.heap.size, 0, none⟩)]] 31)) := (fr_alloc _ _ _).alloc _
  have hl2 := hl.fr0 hf2
  have x3 := x1.fr0 (fr_alloc (fun _ => False) _ (.cells #[.func (.func 39) #[] #[.pointer (some ⟨W.heap.size, 0, none⟩)]] 31))
  have hk : OutK W.heap.size (W.heap.size + 1) n _ := ⟨x3.cell, x2.cell⟩
  have HC := Lib.hid (ContainsFunc_is (c := c) bad_is (fun _ _ h f => ⟨f.cell h.1 (fun x => x), f.cell h.2 (fun x => x)⟩) (enters_of Tryd.func41 (by kernel_rfl) rfl) hl2 hk)
  rw [hall] at HC
  have b1 : (n : Int) ≤ 1024 := by omega
  have HALL := Lib.hid hall
  clear hall hk x1 x2
  have HL := Lib.hid hl
  clear hl2 hl
  go_enter Tryd.func27, Tryd.ntmps27
  go_upto_region 4 with (go_at_call 40; refine HC.out.mono ?_; rintro e w2 ⟨_, rfl, rfl, hf3⟩)
  have hf4 := hf2.trans0 hf3
  have x4 := (x3.fr0 hf3)
  have y4 := x4.cell
  have hl4 := HL.out.fr0 hf4
  have hsz2 : W.heap.size < w2.heap.size := by have := hf3.size; simp at this; omega
  have hsz := hf4.size
  clear hf2 hf3 x3 HC
  go_cut [7] from 11 (fun s7 wx => MidG W W.heap.size n l s7 wx ∧ Box wx W.heap.size 3 (.int .i64 n))
  case first =>
    have hmk : ∀ w, (Instr.makeSlice 33 (.int .i64 ((n : Int) + 1)) (.int .i64 ((n : Int) + 1))).run Tryd.prog w = .ok (.slice (some ⟨w.heap.size, 0, none⟩) (n + 1) (n + 1)) (w.alloc (.cells (natVs (List.replicate (n + 1) 0)) 3)) := by
      intro w; rw [show ((n : Int) + 1) = ((n + 1 : Nat) : Int) by omega]; exact make_ints (n + 1) (by omega) w
    have hw : IntKind.i64.wrap ((n : Int) + 1) = (n : Int) + 1 := by rw [IntKind.wrap_i64]; omega
    go_region_with (go_at_call 42; refine (joined_is (by first | exact hl4 | exact hl4.fr0 (fr_drew _ _) | exact hl4.fr0 ((fr_drew _ _).trans0 (fr_alloc _ _ _))) hsm).mono ?_; rintro e w3 ⟨_, rfl, hj1, s, hj2, hj3, hj4⟩; obtain ⟨A', c', rfl⟩ := own_form hj4; have yy := ((x4.fr0 (by first | exact fr_drew _ _ | exact (fr_drew _ _).alloc _)).fr0 hj1).cell)
    all_goals (go_wp2_with fail; go_meet)
    case rel =>
      have hI : IntArr (w2.drew.alloc (.cells (natVs (List.replicate (n + 1) 0)) 3)) w2.heap.size (List.replicate (n + 1) 0) := World.alloc_heap_new w2.drew _
      have hfa : Fr0 W w3 := (((hf4.drew).alloc _).trans0 hj1)
      refine ⟨⟨w3.heap.size, w2.heap.size, _, s, rfl, hfa.alloc _, hfa.size, hsz2, World.alloc_heap_new w3 _, Fr0.heap' (fr_alloc _ _ _) (hj1.heap' hI), hj2, hj3, (hj4.alloc _).mono (Nat.le_trans hsz (by show w2.heap.size ≤ (w2.alloc _).heap.size; rw [World.size_alloc]; exact Nat.le_succ _))⟩, ?_⟩
      exact ((x4.fr0 ((fr_drew _ _).alloc _)).fr0 hj1).fr0 (fr_alloc _ _ _)
    all_goals
      have hfa : Fr0 W w3 := (hf4.drew).trans0 hj1
      have hI : IntArr (w3.alloc (.cells (natVs (List.replicate (n + 1) 0)) 3)) w3.heap.size (List.replicate (n + 1) 0) := World.alloc_heap_new w3 _
      have hG := World.alloc_heap_new (w3.alloc (.cells (natVs (List.replicate (n + 1) 0)) 3)) (.cells #[.slice (some ⟨w3.heap.size, 0, none⟩) (n + 1) (n + 1), .slice A' (joinL s).length c'] 97)
      rw [World.size_alloc] at hG
      refine ⟨⟨w3.heap.size + 1, w3.heap.size, _, s, rfl, (hfa.alloc _).alloc _, Nat.le_succ_of_le hfa.size, Nat.lt_of_lt_of_le hsz2 (show w2.heap.size ≤ _ from hj1.size), hG, Fr0.heap' (fr_alloc _ _ _) hI, hj2, hj3, ((hj4.alloc _).alloc _).mono hsz⟩, ?_⟩
      exact ((x4.fr0 ((fr_drew _ _))).fr0 hj1).fr0 ((fr_alloc _ _ _).alloc _)
  case rest =>
    obtain ⟨⟨g, ab, v, s, rfl, hfx, hBg, hBa, hG, hI, hs1, hs2, hO⟩, hbx⟩ := hcut
    obtain ⟨A', c', rfl⟩ := own_form hO
    have HE := Lib.hid (join_ends hs1 HALL.out)
    have HJL : Hid ((joinL s).length ≤ l.length) := Lib.hid (Nat.le_trans (joinL_len s) (by rw [hs1.length_eq]; exact List.length_filter_le _ _))
    have HS := Lib.hid (show s.Perm (l.filter (fun a => !dropI a)) ∧ SortedOn s 0 s.length from ⟨hs1, hs2⟩)
    have hgab : g ≠ ab := by
      intro e; subst e; unfold IntArr at hI; rw [hG] at hI; injection hI with h; injection h with _ h; exact absurd h (by decide)
    have hnab : W.heap.size ≠ ab := by omega
    clear hs1 hs2 HALL y4 x4 hl4 hf4 HL hsz
    generalize hJ : joinL s = J at hG hO HE HJL
    have HJ := Lib.hid hJ
    have hJl := HJL.out
    have g0 : wc.cell? ⟨g, 0, none⟩ = some (.slice (some ⟨ab, 0, none⟩) (n + 1) (n + 1)) := by simp [World.cell?, hG]
    have g1 : wc.cell? ⟨g, 1, none⟩ = some (.slice A' J.length c') := by simp [World.cell?, hG]
    clear hJ
    have HG := Lib.hid hG
    clear hG
    go_wp2_with fail
    go_loopw [35] (fun v35 wr => ∃ (k : Nat) (vs : List Nat), k ≤ J.length ∧ v35 = .int .i64 k ∧ vs.length = n + 1 ∧ Hid (∀ i, i ≤ n → vs.getD i 0 = cnt1 (J.take k) i) ∧ IntArr wr ab vs ∧ Fr (fun b => b = ab) wc wr) (fun v35 _ => J.length - (intOf v35).toNat)
    case atStart => exact ⟨0, _, by omega, rfl, by simp, Lib.hid (fun i hi => by rw [List.getD_eq_getElem?_getD, List.getElem?_replicate, if_pos (by omega)]; rfl), hI, Fr.refl _ _⟩
    case round =>
      obtain ⟨k, vs, hk, rfl, hvl, HV, hIr, hfr⟩ := hrel
      have hbr := (hbx.fr hfr hnab).cell
      by_cases hlt : k < J.length
      · have hOr : wr.ownsRow W.heap.size 65 3 (.slice A' J.length c') J.length (arcCells J) := own_fr hO hfr (fun b hb e => own_ne hO hI (by decide) (e ▸ hb))
        rcases own_arr hOr with ⟨_, e⟩ | ⟨q, qc, qt, e, hq, haq, _⟩
        · rw [e] at hlt; cases hlt
        cases e
        obtain ⟨c1, c2, c3⟩ := haq.arc hlt
        obtain ⟨e1, e2, _, _⟩ := HE.out (J.getD k default) (by rw [List.getD_eq_getElem?_getD, List.getElem?_eq_getElem hlt]; exact List.getElem_mem _)
        have HT := Lib.hid (fun i => cnt1_take hlt i)
        generalize J.getD k default = u at c1 c2 c3 e1 e2 HT
        obtain ⟨uf, ut, um⟩ := u
        simp only at c1 c2 c3 e1 e2
        obtain ⟨fN, rfl⟩ : ∃ fN : Nat, uf = (fN : Int) := ⟨uf.toNat, by omega⟩
        have hfn : fN < n := by omega
        have a1 := cell3_new wr _ rfl ⟨(fN : Int), ut, um⟩ 65 0 _ rfl
        simp only [Addr.add, if_true] at a1
        obtain ⟨w4, hw4⟩ : ∃ w4, w4 = wr.alloc (.cells #[.int .i64 (fN : Int), .int .i64 ut, .int .i64 um] 65) := ⟨_, rfl⟩
        have hf4 : Fr (fun b => b = ab) wc w4 := by rw [hw4]; exact hfr.alloc _
        have hI4 : IntArr w4 ab vs := by rw [hw4]; exact Fr0.heap' (fr_alloc _ _ _) hIr
        rw [← hw4] at a1
        have gr0 : w4.cell? ⟨g, 0, none⟩ = some (.slice (some ⟨ab, 0, none⟩) (n + 1) (n + 1)) := hf4.cell g0 hgab
        have at1 := hI4.cell (i := fN + 1) (by omega)
        have fz1 := hI4.frozen (fN + 1)
        have hb1 := HV.out (fN + 1) (by omega)
        have hb2 := cnt1_le (J.take k) (fN + 1)
        rw [List.length_take] at hb2
        have hset := Lib.hid (hI4.set (fN + 1) (vs.getD (fN + 1) 0 + 1))
        generalize hx : vs.getD (fN + 1) 0 = x at at1 hset hb1
        have hxb : x ≤ 17592186044416 := by omega
        have HX := Lib.hid hx
        have HB1 := Lib.hid hb1
        clear hOr haq hx hb1 hb2 e1 e2
        have b1 : (fN : Int) + 1 < (n : Int) + 1 := by omega
        have b2 : (fN : Int) < (n : Int) := by omega
        have hw1 : IntKind.i64.wrap ((fN : Int) + 1) = (fN : Int) + 1 := by rw [IntKind.wrap_i64]; omega
        have hw2 : IntKind.i64.wrap ((x : Int) + 1) = (x : Int) + 1 := by rw [IntKind.wrap_i64]; omega
        have ht : ((fN : Int) + 1).toNat = fN + 1 := by omega
        have HW4 := Lib.hid hw4
        clear hw4
        go_wp2_with fail
        rw [← HW4.out]
        go_region
        clear hw1 hw2
        go_wp2_with fail
        go_roundw
        case rel =>
          refine ⟨k + 1, vs.set (fN + 1) (x + 1), by omega, by go_num, by rw [List.length_set]; exact hvl, Lib.hid (fun i hi => ?_), hset.out, ?_⟩
          · rw [HT.out i]
            by_cases e : i = fN + 1
            · subst e
              rw [List.getD_eq_getElem?_getD, List.getElem?_set_self (by omega), if_pos (by simp), ← HB1.out]; rfl
            · rw [if_neg (by omega), Nat.add_zero, ← HV.out i hi, List.getD_eq_getElem?_getD, List.getElem?_set_ne (by omega), List.getD_eq_getElem?_getD]
              try rfl
          · exact (hf4.setCell ⟨ab, fN + 1, none⟩ _ (fun _ => rfl)).drew
        case measure => simp [intOf]; omega
      · have hke : k = J.length := by omega
        have hV1 : ∀ i, i ≤ n → vs.getD i 0 = cnt1 J i := by
          intro i hi; have := HV.out i hi; rwa [hke, List.take_of_length_le (Nat.le_refl _)] at this
        have HV1 := Lib.hid hV1
        clear hV1 HV
        go_wp2_with fail
        go_loopw [52] (fun v52 wr => ∃ (k : Nat) (vs : List Nat), k ≤ n ∧ v52 = .int .i64 k ∧ vs.length = n + 1 ∧ Hid (∀ i, i ≤ n → vs.getD i 0 = if i ≤ k then cntF J i else cnt1 J i) ∧ IntArr wr ab vs ∧ Fr (fun b => b = ab) wc wr) (fun v52 _ => n - (intOf v52).toNat)
        case atStart =>
          refine ⟨0, vs, by omega, rfl, hvl, Lib.hid (fun i hi => ?_), hIr, hfr⟩
          have hz := fun a ha => (HE.out a ha).1
          by_cases e : i = 0
          · subst e; rw [if_pos (by omega), HV1.out 0 hi, cntF_zero hz, cnt1_zero hz]
          · rw [if_neg (by omega), HV1.out i hi]
        case round =>
          clear hlt hke hbr hIr hfr hvl HV1 hk
          obtain ⟨k, vs, hk, rfl, hvl, HV, hIr, hfr⟩ := hrel
          have hbr := (hbx.fr hfr hnab).cell
          by_cases hlt : k < n
          · have gr0 : wr.cell? ⟨g, 0, none⟩ = some (.slice (some ⟨ab, 0, none⟩) (n + 1) (n + 1)) := hfr.cell g0 hgab
            have at1 := hIr.cell (i := k + 1) (by omega)
            have at0 := hIr.cell (i := k) (by omega)
            have fz1 := hIr.frozen (k + 1)
            have hb1 := HV.out (k + 1) (by omega)
            have hb0 := HV.out k (by omega)
            rw [if_neg (by omega)] at hb1
            rw [if_pos (by omega)] at hb0
            have hc1 := cnt1_le J (k + 1)
            have hc0 := cntF_le J k
            have hset := Lib.hid (hIr.set (k + 1) (vs.getD (k + 1) 0 + vs.getD k 0))
            generalize hx : vs.getD (k + 1) 0 = x at at1 hset hb1
            generalize hy : vs.getD k 0 = y at at0 hset hb0
            have hxb : x ≤ 17592186044416 := by omega
            have hyb : y ≤ 17592186044416 := by omega
            have HB1 := Lib.hid hb1
            have HB0 := Lib.hid hb0
            clear hx hy hb1 hb0 hc1 hc0
            have b1 : (k : Int) + 1 < (n : Int) + 1 := by omega
            have b2 : (k : Int) < (n : Int) + 1 := by omega
            have b3 : (k : Int) < (n : Int) := by omega
            have hw1 : IntKind.i64.wrap ((k : Int) + 1) = (k : Int) + 1 := by rw [IntKind.wrap_i64]; omega
            have hw2 : IntKind.i64.wrap ((x : Int) + (y : Int)) = (x : Int) + (y : Int) := by rw [IntKind.wrap_i64]; omega
            have ht : ((k : Int) + 1).toNat = k + 1 := by omega
            go_wp2_with fail
            go_region
            clear hw1 hw2
            go_wp2_with fail
            go_roundw
            case rel =>
              refine ⟨k + 1, vs.set (k + 1) (x + y), by omega, by go_num, by rw [List.length_set]; exact hvl, Lib.hid (fun i hi => ?_), by have := hset.out; rw [Int.natCast_add] at this; exact this, ?_⟩
              · by_cases e : i = k + 1
                · subst e
                  rw [List.getD_eq_getElem?_getD, List.getElem?_set_self (by omega), if_pos (by omega), cntF_succ, ← HB1.out, ← HB0.out]
                  simp only [Option.getD_some]; omega
                · rw [List.getD_eq_getElem?_getD, List.getElem?_set_ne (by omega), ← List.getD_eq_getElem?_getD, HV.out i hi]
                  by_cases e2 : i ≤ k
                  · rw [if_pos e2, if_pos (by omega)]
                  · rw [if_neg e2, if_neg (by omega)]
              · exact (hfr.setCell ⟨ab, k + 1, none⟩ _ (fun _ => rfl)).drew
            case measure => simp [intOf]; omega
          · have hke : k = n := by omega
            go_wp2_with fail
            go_ret2
            have hOr : wr.ownsRow W.heap.size 65 3 (.slice A' J.length c') J.length (arcCells J) := own_fr hO hfr (fun b hb e => own_ne hO hI (by decide) (e ▸ hb))
            refine ⟨_, rfl, g, s, rfl, hfx.trans hfr (fun j hj e => by omega), hBg, HS.out.1, HS.out.2, ab, A', c', ?_, ⟨vs, hIr, hvl, fun i hi => ?_⟩, ?_, ?_, own_blkA hOr⟩
            · rw [HJ.out]; exact hfr.heap HG.out hgab
            · rw [HV.out i hi, if_pos (by omega), HJ.out]
            · rw [HJ.out]; exact own_arcs hOr (by omega)
            · rw [HJ.out]; exact own_cap hOr
end Go.Proofs.YtdcjfpjpboafnaaDoor
