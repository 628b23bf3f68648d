/- The document's graph: New. -/
import Derived.Test.YtdcjfpjpboafnaaDoorRefA
import Derived.Test.YtdcjfpjpboafnaaDoorRefB
import Derived.BigRegion
import Derived.StillTailTactics
namespace Go.Proofs.YtdcjfpjpboafnaaDoor
set_option linter.all false
open Go.RowKit
set_option maxRecDepth 100000

attribute [local go_sem ↓] appendH_eq
/-- Block b is an array of whole numbers. -/
def IntRow (W : World) (b : Nat) (vs : List Int) : Prop := W.heap[b]? = some (.cells (intsI vs).toArray 3 (0, 0))
theorem IntRow.cell {W : World} {b : Nat} {vs : List Int} (h : IntRow W b vs) {i : Nat} (hi : i < vs.length) : W.cell? ⟨b, i, none⟩ = some (.int .i64 (vs.getD i 0)) := by
  unfold IntRow at h
  simp [World.cell?, h, intsI, List.getD_eq_getElem?_getD, List.getElem?_eq_getElem hi]
theorem IntRow.frozen {W : World} {b : Nat} {vs : List Int} (h : IntRow W b vs) (o : Nat) : W.frozen? ⟨b, o, none⟩ = false := by
  unfold IntRow at h; simp [World.frozen?, h]
theorem IntRow.set {W : World} {b : Nat} {vs : List Int} (h : IntRow W b vs) (i : Nat) (x : Int) : IntRow (W.setCell ⟨b, i, none⟩ (.int .i64 x)) b (vs.set i x) := by
  unfold IntRow at h ⊢
  rw [heap_setCell_same h]
  simp [intsI, List.map_set]
def rowSl (n : Nat) (L : List Nat) : List Value := L.map (fun b => .slice (some ⟨b, 0, none⟩) n n)
/-- The masks of the arcs from a vertex to another one, together. -/
def orM (l : List ArcI) (a b : Int) : Int := l.foldl (fun x u => if u.f ≠ u.t ∧ u.f = a ∧ u.t = b then bits .or .i64 x u.m else x) 0
theorem orM_snoc (l : List ArcI) (u : ArcI) (a b : Int) : orM (l ++ [u]) a b = if u.f ≠ u.t ∧ u.f = a ∧ u.t = b then bits .or .i64 (orM l a b) u.m else orM l a b := by
  simp [orM, List.foldl_append]
/-- The graph that is being made. -/
structure RefI (W wr : World) (n k : Nat) (L : List Nat) (Mx : Nat → Nat → Int) : Prop where
  fr : Fr0 W wr
  len : L.length = k
  res : wr.heap[W.heap.size]? = some (.cells #[.int .i64 0, .slice none 0 0] 37 (0, 0))
  box : ∃ v, wr.heap[W.heap.size + 1]? = some (.cells #[.int .i64 n, v] 37 (0, 0)) ∧ wr.ownsRow W.heap.size 33 1 v k (rowSl n L)
  rows : ∀ i, i < k → IntRow wr (L.getD i 0) ((List.range n).map (Mx i))
  own : ∀ i, i < k → W.heap.size ≤ L.getD i 0
  apart : ∀ i j, i < j → j < k → L.getD i 0 ≠ L.getD j 0
theorem RefI.fr0 {W wr w' : World} {n k : Nat} {L : List Nat} {Mx : Nat → Nat → Int} (h : RefI W wr n k L Mx) (f : Fr0 wr w') : RefI W w' n k L Mx :=
  ⟨h.fr.trans0 f, h.len, f.heap' h.res, by obtain ⟨v, h1, h2⟩ := h.box; exact ⟨v, f.heap' h1, own_fr0 h2 f⟩, fun i hi => f.heap' (h.rows i hi), h.own, h.apart⟩
theorem RefI.at_ {W wr : World} {n k c : Nat} {L : List Nat} {Mx : Nat → Nat → Int} {A : Option Addr} (h : RefI W wr n k L Mx) (hc : wr.cell? ⟨W.heap.size + 1, 1, none⟩ = some (.slice A k c)) {i : Nat} (hi : i < k) :
    ∃ b, A = some ⟨b, 0, none⟩ ∧ wr.cell? ⟨b, i, none⟩ = some (.slice (some ⟨L.getD i 0, 0, none⟩) n n) := by
  obtain ⟨v, h1, h2⟩ := h.box
  have h0 : wr.cell? ⟨W.heap.size + 1, 1, none⟩ = some v := by simp [World.cell?, h1]
  rw [h0] at hc
  have e := Option.some.inj hc
  subst e
  rcases h2.2 with ⟨_, e⟩ | ⟨g, cap, cur, e, _⟩
  · omega
  · cases e
    refine ⟨g, rfl, ?_⟩
    rw [h2.cellAt i (by omega)]
    have hl := h.len
    simp [rowSl, List.getD_eq_getElem?_getD, List.getElem?_eq_getElem (show i < L.length by omega)]
theorem RefI.set {W wr : World} {n : Nat} {L : List Nat} {Mx M2 : Nat → Nat → Int} (h : RefI W wr n n L Mx) {f t : Nat} (hf : f < n) (ht : t < n) {x : Int} (h1 : M2 f t = x) (h2 : ∀ a b, ¬ (a = f ∧ b = t) → M2 a b = Mx a b) :
    RefI W (wr.setCell ⟨L.getD f 0, t, none⟩ (.int .i64 x)) n n L M2 := by
  have hF : Fr (fun b => b = L.getD f 0) wr (wr.setCell ⟨L.getD f 0, t, none⟩ (.int .i64 x)) := fr_setCell _ _ _ (fun _ => rfl)
  have hr := h.rows f hf
  have hne : ∀ {k : Nat} {cs : Array Value} {t : Nat}, wr.heap[k]? = some (.cells cs t (0, 0)) → t ≠ 3 → ¬ k = L.getD f 0 := by
    intro k cs t hk ht e
    subst e
    unfold IntRow at hr
    rw [hr] at hk; injection hk with hk; injection hk with _ hk _; exact ht hk.symm
  obtain ⟨v, k1, k2⟩ := h.box
  refine ⟨h.fr.trans hF (fun j hj e => by have := h.own f hf; omega), h.len, hF.heap h.res (hne h.res (by decide)), ⟨v, hF.heap k1 (hne k1 (by decide)), own_fr k2 hF (fun b hb e => own_ne k2 hr (by decide) (e ▸ hb))⟩, fun i hi => ?_, h.own, h.apart⟩
  by_cases e : i = f
  · subst e
    have := hr.set t x
    have e2 : ((List.range n).map (Mx i)).set t x = (List.range n).map (M2 i) := by
      apply List.ext_getElem
      · simp
      · intro j g1 g2
        simp only [List.length_set, List.length_map, List.length_range] at g1
        simp only [List.getElem_map, List.getElem_range, List.getElem_set]
        by_cases e : t = j
        · subst e; rw [if_pos rfl, h1]
        · rw [if_neg e, h2 i j (fun h => e h.2.symm)]
    rw [e2] at this
    exact this
  · have e3 : M2 i = Mx i := by funext b; exact h2 i b (fun h => e h.1)
    rw [e3]
    refine hF.heap (h.rows i hi) (fun e' => ?_)
    rcases Nat.lt_or_gt_of_ne e with e2 | e2
    · exact h.apart i f e2 hf e'
    · exact h.apart f i e2 hi e'.symm
theorem info_ints : (Tryd.prog.info? 33).map (fun i => (i.zero, i.size, i.bytes)) = some (some (.slice none 0 0), 1, 24) := by kernel_rfl
/-- A document's graph of one's own: its blocks lie from B on, each row apart from the others. -/
structure OwnG (B : Nat) (w : World) (n : Nat) (R : Option Addr) (c : Nat) (L : List Nat) (Mx : Nat → Nat → Int) : Prop where
  room : n ≤ 1024
  len : L.length = n
  own : w.ownsRow B 33 1 (.slice R n c) n (rowSl n L)
  rows : ∀ i, i < n → IntRow w (L.getD i 0) ((List.range n).map (Mx i))
  new : ∀ i, i < n → B ≤ L.getD i 0
  apart : ∀ i j, i < j → j < n → L.getD i 0 ≠ L.getD j 0
theorem OwnG.fr0 {B n c : Nat} {w w' : World} {R : Option Addr} {L : List Nat} {Mx : Nat → Nat → Int} (h : OwnG B w n R c L Mx) (f : Fr0 w w') : OwnG B w' n R c L Mx :=
  ⟨h.room, h.len, own_fr0 h.own f, fun i hi => f.heap' (h.rows i hi), h.new, h.apart⟩
theorem OwnG.congr {B n c : Nat} {w : World} {R : Option Addr} {L : List Nat} {Mx M2 : Nat → Nat → Int} (h : OwnG B w n R c L Mx) (e : ∀ a b, a < n → b < n → M2 a b = Mx a b) : OwnG B w n R c L M2 :=
  ⟨h.room, h.len, h.own, fun i hi => by
    have e2 : (List.range n).map (M2 i) = (List.range n).map (Mx i) := List.map_congr_left (fun b hb => e i b hi (List.mem_range.1 hb))
    rw [e2]; exact h.rows i hi, h.new, h.apart⟩
theorem OwnG.at_ {B n c : Nat} {w : World} {R : Option Addr} {L : List Nat} {Mx : Nat → Nat → Int} (h : OwnG B w n R c L Mx) {i : Nat} (hi : i < n) :
    ∃ b, R = some ⟨b, 0, none⟩ ∧ w.cell? ⟨b, i, none⟩ = some (.slice (some ⟨L.getD i 0, 0, none⟩) n n) := by
  have h2 := h.own
  rcases h2.2 with ⟨_, e⟩ | ⟨g, cap, cur, e, _⟩
  · omega
  · cases e
    refine ⟨g, rfl, ?_⟩
    rw [h2.cellAt i (by omega)]
    have hl := h.len
    simp [rowSl, List.getD_eq_getElem?_getD, List.getElem?_eq_getElem (show i < L.length by omega)]
theorem OwnG.ref {B n c : Nat} {w : World} {R : Option Addr} {L : List Nat} {Mx : Nat → Nat → Int} (h : OwnG B w n R c L Mx) : RefG w n R Mx := by
  refine ⟨h.room, fun i hi => ?_⟩
  obtain ⟨b, e, h1⟩ := h.at_ hi
  refine ⟨b, 0, L.getD i 0, 0, n, e, by rw [Nat.zero_add]; exact h1, fun j hj => ?_⟩
  have := (h.rows i hi).cell (i := j) (by simpa using hj)
  rw [Nat.zero_add, this, List.getD_eq_getElem?_getD, List.getElem?_eq_getElem (by simpa using hj)]
  simp
theorem OwnG.set {B n c : Nat} {w : World} {R : Option Addr} {L : List Nat} {Mx M2 : Nat → Nat → Int} (h : OwnG B w n R c L Mx) {f t : Nat} (hf : f < n) (ht : t < n) {x : Int} (h1 : M2 f t = x) (h2 : ∀ a b, ¬ (a = f ∧ b = t) → M2 a b = Mx a b) :
    OwnG B (w.setCell ⟨L.getD f 0, t, none⟩ (.int .i64 x)) n R c L M2 ∧ Fr (fun b => b = L.getD f 0) w (w.setCell ⟨L.getD f 0, t, none⟩ (.int .i64 x)) := by
  have hF : Fr (fun b => b = L.getD f 0) w (w.setCell ⟨L.getD f 0, t, none⟩ (.int .i64 x)) := fr_setCell _ _ _ (fun _ => rfl)
  have hr := h.rows f hf
  refine ⟨⟨h.room, h.len, own_fr h.own hF (fun b hb e => own_ne h.own hr (by decide) (e ▸ hb)), fun i hi => ?_, h.new, h.apart⟩, hF⟩
  by_cases e : i = f
  · subst e
    have := hr.set t x
    have e2 : ((List.range n).map (Mx i)).set t x = (List.range n).map (M2 i) := by
      apply List.ext_getElem
      · simp
      · intro j g1 g2
        simp only [List.length_set, List.length_map, List.length_range] at g1
        simp only [List.getElem_map, List.getElem_range, List.getElem_set]
        by_cases e : t = j
        · subst e; rw [if_pos rfl, h1]
        · rw [if_neg e, h2 i j (fun h => e h.2.symm)]
    rw [e2] at this
    exact this
  · have e3 : M2 i = Mx i := by funext b; exact h2 i b (fun h => e h.1)
    rw [e3]
    refine hF.heap (h.rows i hi) (fun e' => ?_)
    rcases Nat.lt_or_gt_of_ne e with e2 | e2
    · exact h.apart i f e2 hf e'
    · exact h.apart f i e2 hi e'.symm
def RefOwnPost (W : World) (n : Nat) (l : List ArcI) (v : Value) (w' : World) : Prop :=
  ∃ R c L, v = .tuple #[.agg #[.int .i64 (n : Int), .slice R n c], .int .i64 0] ∧ Fr0 W w' ∧ OwnG W.heap.size w' n R c L (fun a b => orM l a b)
def RefNewPost (W : World) (n : Nat) (l : List ArcI) (v : Value) (w' : World) : Prop :=
  ∃ R c, v = .tuple #[.agg #[.int .i64 (n : Int), .slice R n c], .int .i64 0] ∧ Fr0 W w' ∧ RefG w' n R (fun a b => orM l a b)
set_option maxHeartbeats 4000000 in
theorem RefNewO_is {W : World} {A : Option Addr} {c : Nat} {l : List ArcI} (hl : ArcsAt W A l) {n : Nat} (hn : n ≤ 1024) (hall : l.any (badI n) = false) :
    Calls Tryd.prog 12 #[.int .i64 n, .slice A l.length c] W (Rets (RefOwnPost W n l)) := by
  have hlen := hl.1
  have hn' : (n : Int) ≤ 1024 := by omega
  have HL := Lib.hid hl
  have HALL := Lib.hid (fun i (hi : i < l.length) => show badI n (l.getD i default) = false by
    have := List.any_eq_false.1 hall (l.getD i default) (by rw [List.getD_eq_getElem?_getD, List.getElem?_eq_getElem hi]; exact List.getElem_mem _)
    simpa using this)
  clear hl hall
  go_enter Tryd.func12, Tryd.ntmps12
  go_wp2_with fail
  go_loopw [6] (fun v6 wr => ∃ k : Nat, k ≤ l.length ∧ v6 = .int .i64 k ∧ wr = W.alloc (.cells #[.int .i64 0, .slice none 0 0] 37)) (fun v6 _ => l.length - (intOf v6).toNat)
  case atStart => exact ⟨0, by omega, rfl, rfl⟩
  case round =>
    obtain ⟨k, hk, rfl, rfl⟩ := hrel
    by_cases hlt : k < l.length
    · have hlt' : (k : Int) < (l.length : Int) := by omega
      rcases (HL.out.fr0 (fr_alloc _ W (.cells #[.int .i64 0, .slice none 0 0] 37))).2 with e | ⟨b, o, rfl, hc⟩
      · rw [e] at hlt; cases hlt
      obtain ⟨c1, c2, c3⟩ := hc k hlt
      obtain ⟨q1, q2, q3, q4⟩ := bad_ends (HALL.out k hlt)
      generalize l.getD k default = a at c1 c2 c3 q1 q2 q3 q4
      clear hc
      go_wp2_with fail
      go_roundw
      case rel => exact ⟨k + 1, by omega, by go_num, by trivial⟩
      case measure => simp [intOf]; omega
    · go_wp2_with fail
      go_loopw [8] (fun v8 wr => ∃ (k : Nat) (L : List Nat), k ≤ n ∧ v8 = .int .i64 k ∧ Hid (RefI W wr n k L (fun _ _ => 0))) (fun v8 _ => n - (intOf v8).toNat)
      case atStart =>
        refine ⟨0, [], by omega, rfl, Lib.hid ⟨?_, rfl, ?_, ⟨.slice none 0 0, ?_, own_nil _ _ _ _⟩, fun i hi => by omega, fun i hi => by omega, fun i j _ hj => by omega⟩⟩
        · exact (fr_alloc _ _ _).alloc _
        · exact Fr0.heap' (fr_alloc _ _ _) (World.alloc_heap_new _ _)
        · have := World.alloc_heap_new (W.alloc (Obj.cells #[Value.int IntKind.i64 0, Value.slice none 0 0] 37)) (Obj.cells #[Value.int IntKind.i64 n, Value.slice none 0 0] 37)
          rwa [World.size_alloc] at this
      case round =>
        clear hk hlt
        obtain ⟨k, L, hk, rfl, HR⟩ := hrel
        have hR := HR.out
        have hfr := hR.fr
        have hsz := hfr.size
        obtain ⟨v0, hh0, ho0⟩ := hR.box
        obtain ⟨A0, c0, rfl⟩ := own_form ho0
        have d0 : wr.cell? ⟨W.heap.size + 1, 1, none⟩ = some (.slice A0 k c0) := by simp [World.cell?, hh0]
        by_cases hlt : k < n
        · have hlt' : (k : Int) < (n : Int) := by omega
          obtain ⟨i0, hi, hz0, hz1, hz2⟩ := info_parts info_ints
          obtain ⟨w1, hw1⟩ : ∃ w1, wr.alloc (.cells (natVs (List.replicate n 0)) 3) = w1 := ⟨_, rfl⟩
          have hf1 : Fr0 wr w1 := hw1 ▸ fr_alloc _ _ _
          have hs1 : w1.heap.size = wr.heap.size + 1 := by rw [← hw1]; simp
          have hrow : IntRow w1 wr.heap.size ((List.range n).map (fun _ => 0)) := by
            have e : (intsI ((List.range n).map (fun _ => (0 : Int)))).toArray = natVs (List.replicate n 0) := by
              simp only [natVs, intsI]
              congr 1
              apply List.ext_getElem
              · simp
              · intro i _ _; simp
            unfold IntRow; rw [e, ← hw1]; exact World.alloc_heap_new _ _
          have hmk : ∀ w, (Instr.makeSlice 33 (.int .i64 (n : Int)) (.int .i64 (n : Int))).run Tryd.prog w = .ok (.slice (some ⟨w.heap.size, 0, none⟩) n n) (w.alloc (.cells (natVs (List.replicate n 0)) 3)) := fun w => make_ints n (by omega) w
          have hmk0 := hmk wr
          have hmk1 := hmk wr.drew
          rw [hw1] at hmk0
          have hfX : Fr0 w1 (w1.alloc (.cells #[.slice (some ⟨wr.heap.size, 0, none⟩) n n] 33)) := fr_alloc _ _ _
          have ho1 := own_fr0 ho0 (hf1.trans0 (hfX.trans0 (fr_drew _ _)))
          have hnew : ∀ j u, [Value.slice (some ⟨wr.heap.size, 0, none⟩) n n][j]? = some u → (w1.alloc (.cells #[.slice (some ⟨wr.heap.size, 0, none⟩) n n] 33)).drew.cell? ((⟨wr.heap.size + 1, 0, none⟩ : Addr).add j) = some u := by
            intro j u hu
            have hj : j = 0 := by
              cases j with
              | zero => rfl
              | succ j => simp at hu
            subst hj
            rw [← hu, ← hs1]
            exact (Box.new w1 _ _).cell
          obtain ⟨v', w', hap, ho2, hgb, _⟩ := run_append_own (P := Tryd.prog) (w := (w1.alloc (.cells #[.slice (some ⟨wr.heap.size, 0, none⟩) n n] 33)).drew) W.heap.size 35 35 33 i0 (.slice none 0 0) 1 24 Tryd.underlying35 hi hz0 hz1 hz2 rfl (by decide) (.slice A0 k c0) k (rowSl n L) ho1 ⟨wr.heap.size + 1, 0, none⟩ 1 1 [.slice (some ⟨wr.heap.size, 0, none⟩) n n] rfl hnew (by simp [Value.oneCell']) (by unfold maxLen; omega) (by omega) (by simp; omega)
          rw [appendH_eq] at hap
          have hfA : Fr (fun b => (Value.slice A0 k c0).ownBlock = some b) (w1.alloc (.cells #[.slice (some ⟨wr.heap.size, 0, none⟩) n n] 33)).drew w' := append_fr0 ho1 hgb
          have d1 := hf1.cell d0 (fun x => x)
          have d2 := hfX.cell d1 (fun x => x)
          have hgX := Fr0.heap' (hf1.trans0 (hfX.trans0 (fr_drew _ _))) hh0
          have hgW := hfA.heap hgX (fun e => own_ne ho1 hgX (by decide) e)
          have d4 : w'.cell? ⟨W.heap.size + 1, 1, none⟩ = some (.slice A0 k c0) := by simp [World.cell?, hgW]
          have d5 : w'.frozen? ⟨W.heap.size + 1, 1, none⟩ = false := by simp [World.frozen?, hgW]
          obtain ⟨A2, c2, rfl⟩ := own_form ho2
          go_wp2_with fail
          go_region
          go_wp2_with fail
          have hS : Fr (fun b => b = W.heap.size + 1 ∨ (Value.slice A0 k c0).ownBlock = some b) wr (w'.setCell ⟨W.heap.size + 1, 1, none⟩ (.slice A2 (k + 1) c2)) :=
            Fr.trans (T := fun b => b = W.heap.size + 1 ∨ (Value.slice A0 k c0).ownBlock = some b) ((hf1.trans0 (hfX.trans0 (fr_drew _ _))).mono (fun _ _ x => x.elim))
              (Fr.trans (T := fun b => b = W.heap.size + 1 ∨ (Value.slice A0 k c0).ownBlock = some b) (hfA.mono (fun _ _ x => .inr x)) (fr_setCell _ _ _ (fun _ => .inl rfl)) (fun _ _ x => x)) (fun _ _ x => x)
          have hno : ∀ j, j < W.heap.size → ¬ (j = W.heap.size + 1 ∨ (Value.slice A0 k c0).ownBlock = some j) := fun j hj h => h.elim (fun e => by omega) (fun e => own_old ho0 hj e)
          have hF : Fr0 W (w'.setCell ⟨W.heap.size + 1, 1, none⟩ (.slice A2 (k + 1) c2)) := hfr.trans hS (fun j hj h => hno j hj h)
          have hint : ∀ {b : Nat} {vs : List Int}, IntRow wr b vs → ¬ (b = W.heap.size + 1 ∨ (Value.slice A0 k c0).ownBlock = some b) := by
            rintro b vs hb (rfl | e)
            · unfold IntRow at hb; rw [hh0] at hb; injection hb with hb; injection hb with _ hb _; exact absurd hb (by decide)
            · exact own_ne ho0 hb (by decide) e
          have hlenL := hR.len
          have hget : ∀ i, i < k → (L ++ [wr.heap.size]).getD i 0 = L.getD i 0 := fun i hi => by
            rw [List.getD_eq_getElem?_getD, List.getElem?_append_left (by omega), List.getD_eq_getElem?_getD]
          have hgetk : (L ++ [wr.heap.size]).getD k 0 = wr.heap.size := by
            rw [List.getD_eq_getElem?_getD, List.getElem?_append_right (by omega), hlenL, Nat.sub_self]; rfl
          have hnew2 : IntRow (w'.setCell ⟨W.heap.size + 1, 1, none⟩ (.slice A2 (k + 1) c2)) wr.heap.size ((List.range n).map (fun _ => 0)) := by
            refine Fr.heap (fr_setCell (S := fun b => b = W.heap.size + 1) _ _ _ (fun _ => rfl)) (hfA.heap (Fr0.heap' (hfX.trans0 (fr_drew _ _)) hrow) (fun e => ?_)) (fun e => ?_)
            · have := (own_blk ho0 e).2.1; omega
            · have := heap_lt hh0; omega
          go_roundw
          case rel =>
            refine ⟨k + 1, L ++ [wr.heap.size], by omega, by go_num, Lib.hid ⟨hF, by simp [hlenL], ?_, ⟨.slice A2 (k + 1) c2, by rw [heap_setCell_same hgW]; rfl, ?_⟩, fun i hi => ?_, fun i hi => ?_, fun i j hij hj => ?_⟩⟩
            · refine hS.heap hR.res (fun h => ?_)
              rcases h with h | h
              · omega
              · exact own_ne ho0 hR.res (by decide) h
            · have h := own_fr (S := fun b => b = W.heap.size + 1) ho2 (fr_setCell w' ⟨W.heap.size + 1, 1, none⟩ (.slice A2 (k + 1) c2) (fun _ => rfl)) (fun b hb e => own_ne ho2 hgW (by decide) (e ▸ hb))
              simpa [rowSl] using h
            · by_cases e : i = k
              · subst e; rw [hgetk]; exact hnew2
              · rw [hget i (by omega)]; exact hS.heap (hR.rows i (by omega)) (hint (hR.rows i (by omega)))
            · by_cases e : i = k
              · subst e; rw [hgetk]; exact hsz
              · rw [hget i (by omega)]; exact hR.own i (by omega)
            · rw [hget i (by omega)]
              by_cases e : j = k
              · subst e; rw [hgetk]
                have := heap_lt (hR.rows i hij)
                omega
              · rw [hget j (by omega)]; exact hR.apart i j hij (by omega)
          case measure => simp [intOf]; omega
        · have hke : k = n := by omega
          subst hke
          clear hfr hsz hh0 ho0 d0 hR
          go_wp2_with fail
          go_loopw [9] (fun v9 wr => ∃ i : Nat, i ≤ l.length ∧ v9 = .int .i64 i ∧ Hid (RefI W wr k k L (fun a b => orM (l.take i) a b))) (fun v9 _ => l.length - (intOf v9).toNat)
          case atStart => exact ⟨0, by omega, rfl, Lib.hid (by simpa [orM] using HR.out)⟩
          case round =>
            clear HR
            obtain ⟨i, hi, rfl, HR⟩ := hrel
            have hR := HR.out
            obtain ⟨v0, hh0, ho0⟩ := hR.box
            obtain ⟨A0, c0, rfl⟩ := own_form ho0
            by_cases hlt2 : i < l.length
            · have hlt' : (i : Int) < (l.length : Int) := by omega
              rcases (HL.out.fr0 hR.fr).2 with e | ⟨b, o, rfl, hc⟩
              · rw [e] at hlt2; cases hlt2
              obtain ⟨c1, c2, c3⟩ := hc i hlt2
              obtain ⟨q1, q2, q3, q4⟩ := bad_ends (HALL.out i hlt2)
              have HT := Lib.hid (take_snoc_a l i hlt2)
              generalize l.getD i default = u at c1 c2 c3 q1 q2 q3 q4 HT
              obtain ⟨uf, ut, um⟩ := u
              simp only at c1 c2 c3 q1 q2 q3 q4
              clear hc
              by_cases e : uf = ut
              · have hb : (uf == ut) = true := by simpa using e
                have hb2 : (uf != ut) = false := by simpa using e
                have HE := Lib.hid e
                clear e hR hh0 ho0
                go_wp2_with fail
                go_quiet (fail)
                go_wp2_with fail
                go_roundw
                case rel => exact ⟨i + 1, by omega, by go_num, Lib.hid (by
                  have hx := HR.out
                  rw [HT.out]
                  have e2 : (fun a b : Nat => orM (l.take i ++ [⟨uf, ut, um⟩]) a b) = (fun a b : Nat => orM (l.take i) a b) := by
                    funext a b; rw [orM_snoc, if_neg (fun h => h.1 HE.out)]
                  rw [e2]; exact hx.fr0 (fr_drewN _ _ _))⟩
                case measure => simp [intOf]; omega
              · have hb : (uf == ut) = false := by simpa using e
                have hb2 : (uf != ut) = true := by simpa using e
                have HE := Lib.hid e
                clear e
                obtain ⟨f, rfl⟩ : ∃ f : Nat, uf = (f : Int) := ⟨uf.toNat, by omega⟩
                obtain ⟨t, rfl⟩ : ∃ t : Nat, ut = (t : Int) := ⟨ut.toNat, by omega⟩
                have hfk : f < k := by omega
                have htk : t < k := by omega
                have d0 : wr.cell? ⟨W.heap.size + 1, 1, none⟩ = some (.slice A0 k c0) := by simp [World.cell?, hh0]
                obtain ⟨q, rfl, d1⟩ := hR.at_ d0 hfk
                have hr := hR.rows f hfk
                have d2 := hr.cell (i := t) (by simpa using htk)
                have d3 := hr.frozen t
                have e3 : ((List.range k).map (fun b : Nat => orM (l.take i) (f : Int) b)).getD t 0 = orM (l.take i) f t := by
                  rw [List.getD_eq_getElem?_getD, List.getElem?_eq_getElem (by simpa using htk)]; simp
                rw [e3] at d2
                have HS := Lib.hid (fun w2 (f2 : Fr0 wr w2) => (hR.fr0 f2).set (M2 := fun a b => orM (l.take (i + 1)) a b) hfk htk (x := bits .or .i64 (orM (l.take i) f t) um) (by rw [HT.out, orM_snoc, if_pos ⟨HE.out, rfl, rfl⟩]) (fun a b h => by
                  rw [HT.out, orM_snoc, if_neg]; intro h'; exact h ⟨by have := h'.2.1; simp at this; omega, by have := h'.2.2; simp at this; omega⟩))
                generalize L.getD f 0 = r at d1 d2 d3 HS
                generalize orM (l.take i) f t = x at d2 HS
                clear hR hh0 ho0 hr e3
                go_wp2_with fail
                go_quiet (fail)
                go_wp2_with fail
                refine wp_region_still_tail 37 (by kernel_rfl) (by kernel_rfl) ?_
                simp only [List.take_succ_cons, List.take_zero, List.drop_succ_cons, List.drop_zero]
                change wpStill _ _ (World.drew _) _ _ _
                repeat still_step
                refine wpStill_nil ?_
                change wpList _ _ _ _ _ (World.drew _)
                go_wp2_with fail
                go_roundw
                case rel => exact ⟨i + 1, by omega, by go_num, Lib.hid (HS.out _ ((fr_drewN _ _ _).trans0 (fr_drew _ _)))⟩
                case measure => simp [intOf]; omega
            · have hie : i = l.length := by omega
              rw [hie, List.take_of_length_le (Nat.le_refl _)] at hR
              have HRR := Lib.hid hR
              have dd := hR.res
              have d0 : wr.cell? ⟨W.heap.size + 1, 0, none⟩ = some (.int .i64 k) := by simp [World.cell?, hh0]
              have d1 : wr.cell? ⟨W.heap.size + 1, 1, none⟩ = some (.slice A0 k c0) := by simp [World.cell?, hh0]
              have f0 : wr.frozen? ⟨W.heap.size, 0, none⟩ = false := by simp [World.frozen?, dd]
              have f1 : wr.frozen? ⟨W.heap.size, 1, none⟩ = false := by simp [World.frozen?, dd]
              have e0 : wr.cell? ⟨W.heap.size, 0, none⟩ = some (.int .i64 0) := by simp [World.cell?, dd]
              have e1 : wr.cell? ⟨W.heap.size, 1, none⟩ = some (.slice none 0 0) := by simp [World.cell?, dd]
              clear hR hh0 ho0 HR dd
              go_wp2_with fail
              obtain ⟨w9, hw9⟩ : ∃ w9, (wr.setCell ⟨W.heap.size, 0, none⟩ (.int .i64 (k : Int))).setCell ⟨W.heap.size, 1, none⟩ (.slice A0 k c0) = w9 := ⟨_, rfl⟩
              rw [hw9]
              have hF : Fr (fun b => b = W.heap.size) wr w9 := hw9 ▸ (fr_setCell (S := fun b => b = W.heap.size) wr ⟨W.heap.size, 0, none⟩ (.int .i64 (k : Int)) (fun _ => rfl)).setCell ⟨W.heap.size, 1, none⟩ (.slice A0 k c0) (fun _ => rfl)
              have hh := heap_setCell_same (o := 1) (heap_setCell_same (o := 0) HRR.out.res (.int .i64 (k : Int))) (.slice A0 k c0)
              rw [hw9] at hh
              have k0 : w9.cell? ⟨W.heap.size, 0, none⟩ = some (.int .i64 k) := by simp [World.cell?, hh]
              have k1 : w9.cell? ⟨W.heap.size, 1, none⟩ = some (.slice A0 k c0) := by simp [World.cell?, hh]
              refine bodyPost_ret (v := .tuple #[.agg #[.int .i64 k, .slice A0 k c0], .int .i64 0]) ?_ rfl ?_
              · simp only [results, show Tryd.f12.results = #[ResultVar.cell 4 37, ResultVar.tmp 5] from rfl]
                go_simp
              · have hne : ∀ {q : Nat} {cs : Array Value} {t : Nat}, wr.heap[q]? = some (.cells cs t (0, 0)) → t ≠ 37 → ¬ q = W.heap.size := by
                  intro q cs t hq ht e
                  subst e
                  rw [HRR.out.res] at hq; injection hq with hq; injection hq with _ hq _; exact ht hq.symm
                obtain ⟨v, p1, p2⟩ := HRR.out.box
                have p0 : wr.cell? ⟨W.heap.size + 1, 1, none⟩ = some v := by simp [World.cell?, p1]
                rw [d1] at p0
                have e := Option.some.inj p0
                subst e
                refine ⟨_, rfl, A0, c0, L, rfl, HRR.out.fr.trans hF (fun j hj e => by omega), by omega, HRR.out.len, own_fr p2 hF (fun b hb e => ?_), fun i hi => ?_, HRR.out.own, HRR.out.apart⟩
                · obtain ⟨_, _, cs, hbb⟩ := own_blk p2 hb
                  exact hne hbb (by decide) e
                · have h2 := HRR.out.rows i hi
                  exact hF.heap h2 (hne h2 (by decide))
theorem RefNew_is {W : World} {A : Option Addr} {c : Nat} {l : List ArcI} (hl : ArcsAt W A l) {n : Nat} (hn : n ≤ 1024) (hall : l.any (badI n) = false) :
    Calls Tryd.prog 12 #[.int .i64 n, .slice A l.length c] W (Rets (RefNewPost W n l)) := by
  refine (RefNewO_is hl hn hall).mono ?_
  rintro e w' ⟨v, rfl, R, c, L, rfl, hf, hO⟩
  exact ⟨_, rfl, R, c, rfl, hf, hO.ref⟩
end Go.Proofs.YtdcjfpjpboafnaaDoor
