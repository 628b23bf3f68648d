/- Rows of arcs, and the library's functions on them: IndexFunc, ContainsFunc, Clone, DeleteFunc. -/
import Derived.Test.YtdcjfpjpboafnaaDoorCmp
import Derived.WalkSpells
import Derived.WalkLawsBesides
namespace Go.Proofs.YtdcjfpjpboafnaaDoor
set_option linter.all false
open Go.RowKit
set_option maxRecDepth 100000

structure ArcI where
  f : Int
  t : Int
  m : Int
  deriving DecidableEq
instance : Inhabited ArcI := ⟨⟨0, 0, 0⟩⟩
def arcV (a : ArcI) : List Value := [.int .i64 a.f, .int .i64 a.t, .int .i64 a.m]
def arcA (a : ArcI) : Value := .agg #[.int .i64 a.f, .int .i64 a.t, .int .i64 a.m]
def arcCells (l : List ArcI) : List Value := l.flatMap arcV
theorem arcCells_len (l : List ArcI) : (arcCells l).length = l.length * 3 := by
  induction l with
  | nil => rfl
  | cons a l ih => simp only [arcCells, List.flatMap_cons, List.length_append, List.length_cons] at ih ⊢; rw [ih]; simp [arcV]; omega
theorem arcCells_get (l : List ArcI) (i : Nat) (h : i < l.length) (j : Nat) (hj : j < 3) : (arcCells l)[i * 3 + j]? = (arcV l[i])[j]? := by
  induction l generalizing i with
  | nil => simp at h
  | cons a l ih =>
    cases i with
    | zero =>
      simp only [arcCells, List.flatMap_cons, Nat.zero_mul, Nat.zero_add, List.getElem_cons_zero]
      rw [List.getElem?_append_left (by simpa [arcV] using hj)]
    | succ i =>
      simp only [List.length_cons] at h
      have := ih i (by omega)
      simp only [arcCells, List.flatMap_cons, List.getElem_cons_succ] at this ⊢
      rw [List.getElem?_append_right (by simp [arcV]; omega), ← this]
      congr 1
      simp [arcV]; omega

/-- The three cells of an arc. -/
def ArcAt (W : World) (b o : Nat) (a : ArcI) : Prop :=
  W.cell? ⟨b, o, none⟩ = some (.int .i64 a.f) ∧ W.cell? ⟨b, o + 1, none⟩ = some (.int .i64 a.t) ∧ W.cell? ⟨b, o + 2, none⟩ = some (.int .i64 a.m)
/-- A row of arcs, where a slice's value says. -/
def ArcsAt (W : World) (A : Option Addr) (l : List ArcI) : Prop :=
  l.length ≤ 17592186044416 ∧ (l = [] ∨ ∃ b o, A = some ⟨b, o, none⟩ ∧ ∀ j, j < l.length → ArcAt W b (o + j * 3) (l.getD j default))
section
variable {W W' : World} {A : Option Addr} {l : List ArcI}
theorem ArcAt.fr {S : Nat → Prop} {b o : Nat} {a : ArcI} (h : ArcAt W b o a) (f : Fr S W W') (hs : ¬ S b) : ArcAt W' b o a := ⟨f.cell h.1 hs, f.cell h.2.1 hs, f.cell h.2.2 hs⟩
theorem ArcAt.grow {B b o : Nat} {a : ArcI} (h : ArcAt W b o a) (f : Grow B W W') : ArcAt W' b o a := ⟨f.cell h.1, f.cell h.2.1, f.cell h.2.2⟩
theorem ArcsAt.grow {B : Nat} (h : ArcsAt W A l) (f : Grow B W W') : ArcsAt W' A l := by
  refine ⟨h.1, h.2.imp id ?_⟩
  rintro ⟨b, o, e, hc⟩
  exact ⟨b, o, e, fun j hj => (hc j hj).grow f⟩
theorem ArcsAt.fr0 (h : ArcsAt W A l) (f : Fr0 W W') : ArcsAt W' A l := h.grow (Fr0.grow f 0)
end

/-- What a function value answers of an arc: it may lay blocks, no more. -/
def PredPost (b : Bool) (W : World) (v : Value) (w' : World) : Prop := v = .bool b ∧ Fr0 W w'
def PredSpec (f : Nat) (caps : Array Value) (p : ArcI → Bool) (K : World → Prop) : Prop :=
  ∀ (a : ArcI) (W : World), K W → Calls Tryd.prog f (#[.agg #[.int .i64 a.f, .int .i64 a.t, .int .i64 a.m]] ++ caps) W (Rets (PredPost (p a) W))
def idxI (p : ArcI → Bool) (l : List ArcI) : Int := match l.findIdx? p with | some i => (i : Int) | none => -1
theorem idxI_at {p : ArcI → Bool} {l : List ArcI} {j : Nat} (hj : j < l.length) (h : p (l.getD j default) = true) (hn : ∀ i, i < j → p (l.getD i default) = false) : idxI p l = (j : Int) := by
  have : l.findIdx? p = some j := by
    rw [List.findIdx?_eq_some_iff_getElem]
    refine ⟨hj, by simpa [List.getD_eq_getElem?_getD, List.getElem?_eq_getElem hj] using h, fun i hi => ?_⟩
    have := hn i hi
    simpa [List.getD_eq_getElem?_getD, List.getElem?_eq_getElem (show i < l.length by omega)] using this
  simp [idxI, this]
theorem idxI_none {p : ArcI → Bool} {l : List ArcI} (hn : ∀ i, i < l.length → p (l.getD i default) = false) : idxI p l = -1 := by
  have : l.findIdx? p = none := by
    rw [List.findIdx?_eq_none_iff]
    intro x hx
    obtain ⟨i, hi, rfl⟩ := List.mem_iff_getElem.1 hx
    have := hn i hi
    simpa [List.getD_eq_getElem?_getD, List.getElem?_eq_getElem hi] using this
  simp [idxI, this]
theorem idxI_any {p : ArcI → Bool} {l : List ArcI} : (0 ≤ idxI p l) = (l.any p = true) := by
  unfold idxI
  cases h : l.findIdx? p with
  | none =>
    rw [List.findIdx?_eq_none_iff] at h
    have : l.any p = false := by rw [List.any_eq_false]; intro x hx; simp [h x hx]
    simp [this]
  | some i =>
    rw [List.findIdx?_eq_some_iff_getElem] at h
    obtain ⟨hi, hp, _⟩ := h
    have : l.any p = true := by rw [List.any_eq_true]; exact ⟨_, List.getElem_mem hi, hp⟩
    simp [this]
theorem idxI_neg {p : ArcI → Bool} {l : List ArcI} (h : idxI p l = -1) : l.filter (fun a => !p a) = l := by
  have : l.any p = false := by
    cases hx : l.any p with
    | false => rfl
    | true => have := @idxI_any p l; rw [hx, h] at this; simp at this
  rw [List.any_eq_false] at this
  rw [List.filter_eq_self]
  intro a ha
  have := this a ha
  simpa using this
theorem idxI_pos {p : ArcI → Bool} {l : List ArcI} (h : idxI p l ≠ -1) : ∃ i : Nat, idxI p l = (i : Int) ∧ (i < l.length ∧ p (l.getD i default) = true) ∧ ∀ j, j < i → p (l.getD j default) = false := by
  unfold idxI at h ⊢
  cases hx : l.findIdx? p with
  | none => rw [hx] at h; exact absurd rfl h
  | some i =>
    rw [List.findIdx?_eq_some_iff_getElem] at hx
    obtain ⟨hi, hp, hn⟩ := hx
    refine ⟨i, rfl, ⟨hi, by simpa [List.getD_eq_getElem?_getD, List.getElem?_eq_getElem hi] using hp⟩, fun j hj => ?_⟩
    have := hn j hj
    simpa [List.getD_eq_getElem?_getD, List.getElem?_eq_getElem (show j < l.length by omega)] using this
theorem take_snoc_a (l : List ArcI) (j : Nat) (h : j < l.length) : l.take (j + 1) = l.take j ++ [l.getD j default] := by
  rw [List.take_succ_eq_append_getElem h]; simp [List.getD_eq_getElem?_getD, List.getElem?_eq_getElem h]
theorem del_start {p : ArcI → Bool} {l : List ArcI} {i : Nat} (hi : i < l.length) (hp : p (l.getD i default) = true) (hn : ∀ j, j < i → p (l.getD j default) = false) : l.take i = (l.take (i + 1)).filter (fun a => !p a) := by
  rw [take_snoc_a l i hi, List.filter_append]
  have h1 : (l.take i).filter (fun a => !p a) = l.take i := by
    rw [List.filter_eq_self]
    intro a ha
    obtain ⟨j, hj, rfl⟩ := List.mem_iff_getElem.1 ha
    have := hn j (by simp at hj; omega)
    simp at hj
    simpa [List.getD_eq_getElem?_getD, List.getElem?_eq_getElem (show j < l.length by omega)] using this
  rw [h1]
  rw [List.getD_eq_getElem?_getD] at hp
  simp [hp]
theorem del_get {l arr : List ArcI} {j : Nat} (hl : arr.length = l.length) (hd : arr.drop j = l.drop j) (hj : j < l.length) : arr.getD j default = l.getD j default := by
  have := congrArg (fun l => l[0]?) hd
  simp only [List.getElem?_drop, Nat.add_zero] at this
  simp [List.getD_eq_getElem?_getD, this]
def IdxPost (r : Int) (W : World) (v : Value) (w' : World) : Prop := v = .int .i64 r ∧ Fr0 W w'
set_option maxHeartbeats 1000000 in
theorem IndexFunc_is {f : Nat} {caps : Array Value} {p : ArcI → Bool} {K : World → Prop} (hp : PredSpec f caps p K) (hK : ∀ W W', K W → Fr0 W W' → K W') (he : ∀ args w, (callFunc f args).run Tryd.prog w = .ok (.enter f args) w)
    {W : World} {A : Option Addr} {c : Nat} {l : List ArcI} (hl : ArcsAt W A l) (h0 : K W) :
    Calls Tryd.prog 57 #[.slice A l.length c, .func (.func f) #[] caps] W (Rets (IdxPost (idxI p l) W)) := by
  obtain ⟨hlen, hA⟩ := hl
  have HP := Lib.hid hp
  have HK := Lib.hid hK
  clear hp hK
  go_enter Tryd.func57, Tryd.ntmps57
  go_wp2
  go_loopw [8] (fun i wr => ∃ j : Nat, j ≤ l.length ∧ i = .int .i64 j ∧ Fr0 W wr ∧ K wr ∧ Hid (∀ i, i < j → p (l.getD i default) = false)) (fun i _ => l.length - (intOf i).toNat)
  case atStart => exact ⟨0, Nat.zero_le _, rfl, Fr.refl _ _, h0, Lib.hid (fun i hi => by omega)⟩
  case round =>
    obtain ⟨j, hj, rfl, hf, hk, HN⟩ := hrel
    by_cases hlt : j < l.length
    · rcases hA with hA | ⟨b, o, rfl, hc⟩
      · subst hA; simp at hlt
      · obtain ⟨c1, c2, c3⟩ := (hc j hlt).fr hf (fun x => x)
        have hj' : (j : Int) < (l.length : Int) := by omega
        generalize hx : l.getD j default = x at c1 c2 c3
        have HX := Lib.hid hx
        clear hx
        cases hpx : p x with
        | false =>
          have HPX := Lib.hid hpx
          clear hpx
          go_wp2
          refine (HP.out x _ hk).mono ?_
          rintro e w2 ⟨_, rfl, h1, h2⟩
          rw [HPX.out] at h1
          subst h1
          have hk2 := HK.out _ _ hk h2
          go_wp2
          go_roundw
          case rel => exact ⟨j + 1, by omega, by go_num, hf.trans0 h2, hk2, Lib.hid (fun i hi => by
            by_cases e : i = j
            · rw [e, HX.out]; exact HPX.out
            · exact HN.out i (by omega))⟩
          case measure => simp [intOf]; omega
        | true =>
          have HPX := Lib.hid hpx
          clear hpx
          go_wp2
          refine (HP.out x _ hk).mono ?_
          rintro e w2 ⟨_, rfl, h1, h2⟩
          rw [HPX.out] at h1
          subst h1
          go_wp2
          go_ret
          refine ⟨_, rfl, ?_, hf.trans0 h2⟩
          have : idxI p l = (j : Int) := idxI_at hlt (by rw [HX.out]; exact HPX.out) HN.out
          rw [this]; rfl
    · go_wp2
      go_ret
      refine ⟨_, rfl, ?_, hf⟩
      have : idxI p l = -1 := idxI_none (fun i hi => HN.out i (by omega))
      rw [this]; rfl

/-! ### ContainsFunc -/
def AnyPost (b : Bool) (W : World) (v : Value) (w' : World) : Prop := v = .bool b ∧ Fr0 W w'
theorem ContainsFunc_is {f : Nat} {caps : Array Value} {p : ArcI → Bool} {K : World → Prop} (hp : PredSpec f caps p K) (hK : ∀ W W', K W → Fr0 W W' → K W') (he : ∀ args w, (callFunc f args).run Tryd.prog w = .ok (.enter f args) w)
    {W : World} {A : Option Addr} {c : Nat} {l : List ArcI} (hl : ArcsAt W A l) (h0 : K W) :
    Calls Tryd.prog 40 #[.slice A l.length c, .func (.func f) #[] caps] W (Rets (AnyPost (l.any p) W)) := by
  have HC := Lib.hid (IndexFunc_is (c := c) hp hK he hl h0)
  have hr : (0 ≤ idxI p l) = (l.any p = true) := idxI_any
  generalize idxI p l = r at HC hr
  clear hp hK
  have hb : decide (0 ≤ r) = l.any p := by
    cases hx : l.any p with
    | false => rw [hx] at hr; simp at hr; simp [hr]
    | true => rw [hx] at hr; simp at hr; simp [hr]
  have HB := Lib.hid hb
  clear hr hb
  go_enter Tryd.func40, Tryd.ntmps40
  go_wp2_with (go_at_call 57; refine HC.out.mono ?_; rintro e w2 ⟨_, rfl, rfl, h2⟩)
  go_ret
  exact ⟨_, rfl, by rw [← HB.out]; rfl, h2⟩

/-! ### Clone -/
theorem info_arc : (Tryd.prog.info? 65).map (fun i => (i.zero, i.size, i.bytes)) = some (some (.agg #[.int .i64 0, .int .i64 0, .int .i64 0]), 3, 24) := by kernel_rfl
/-- A list of arcs of one's own. -/
def OwnArcs (w : World) (l : List ArcI) (v : Value) (w' : World) : Prop := Fr0 w w' ∧ w'.ownsRow w.heap.size 65 3 v l.length (arcCells l)
theorem arcs_news {W : World} {b o : Nat} {l : List ArcI} (hc : ∀ j, j < l.length → ArcAt W b (o + j * 3) (l.getD j default)) : ∀ j u, (arcCells l)[j]? = some u → W.cell? ((⟨b, o, none⟩ : Addr).add j) = some u := by
  intro j u hu
  have hj : j < l.length * 3 := by rw [← arcCells_len]; exact (List.getElem?_eq_some_iff.1 hu).1
  have hi : j / 3 < l.length := by omega
  have e : j = j / 3 * 3 + j % 3 := by omega
  have h3 := arcCells_get l (j / 3) hi (j % 3) (by omega)
  rw [← e, hu] at h3
  obtain ⟨c1, c2, c3⟩ := hc (j / 3) hi
  rw [List.getD_eq_getElem?_getD, List.getElem?_eq_getElem hi, Option.getD_some] at c1 c2 c3
  have ha : (⟨b, o, none⟩ : Addr).add j = ⟨b, o + j, none⟩ := by
    unfold Addr.add
    split
    · rename_i h0; subst h0; rfl
    · rfl
  rw [ha]
  have hm : j % 3 = 0 ∨ j % 3 = 1 ∨ j % 3 = 2 := by omega
  rcases hm with hm | hm | hm <;> rw [hm] at h3 <;> simp [arcV] at h3 <;> subst h3
  · rw [show o + j = o + j / 3 * 3 by omega]; exact c1
  · rw [show o + j = o + j / 3 * 3 + 1 by omega]; exact c2
  · rw [show o + j = o + j / 3 * 3 + 2 by omega]; exact c3
theorem arcCells_one (l : List ArcI) : ∀ u ∈ arcCells l, u.oneCell' = true := by
  intro u hu
  simp only [arcCells, List.mem_flatMap, arcV] at hu
  obtain ⟨a, _, h⟩ := hu
  simp at h
  rcases h with rfl | rfl | rfl <;> rfl
set_option maxHeartbeats 1000000 in
theorem CloneA_is {W : World} {A : Option Addr} {c : Nat} {l : List ArcI} (hl : ArcsAt W A l) (hsm : l.length * 24 ≤ 140737488355328) :
    Calls Tryd.prog 59 #[.slice A l.length c] W (Rets (OwnArcs W l)) := by
  obtain ⟨i0, hi, hz0, hz1, hz2⟩ := info_parts info_arc
  have hq := fun (w : World) (a : Option Addr) (n c : Nat) => Lib.run_eql_slice_nil (P := Tryd.prog) w 64 65 a n c 0 0 Tryd.underlying64
  cases A with
  | none =>
    have hl0 : l = [] := by
      rcases hl.2 with h | ⟨b, o, h, _⟩
      · exact h
      · cases h
    subst hl0
    go_enter Tryd.func59, Tryd.ntmps59
    go_wp2
    go_ret
    exact ⟨_, rfl, Fr.refl _ _, own_nil _ _ _ _⟩
  | some a =>
    obtain ⟨hlen, hA⟩ := hl
    have hnews : ∀ j u, (arcCells l)[j]? = some u → (W.alloc (.cells #[] 65)).cell? (a.add j) = some u := by
      intro j u hu
      rcases hA with rfl | ⟨b, o, e, hc⟩
      · simp [arcCells] at hu
      · cases e
        exact arcs_news (fun j hj => (hc j hj).fr (fr_alloc (fun _ => False) _ _) (fun x => x)) j u hu
    have hown : (W.alloc (.cells #[] 65)).ownsRow W.heap.size 65 3 (.slice (some ⟨W.heap.size, 0, none⟩) 0 0) 0 [] :=
      World.ownsRow_made W #[] 0 (Nat.le_refl _) (by decide) (by simp)
    have HN := Lib.hid hnews
    have HO := Lib.hid hown
    clear hnews hown
    go_enter Tryd.func59, Tryd.ntmps59
    go_wp2_with (at_builtin; refine wpList_append_own _ rfl _ _ 64 rfl W.heap.size 65 i0 (.agg #[.int .i64 0, .int .i64 0, .int .i64 0]) 3 24 Tryd.underlying64 hi hz0 hz1 hz2 rfl (by decide) _ _ _ rfl HO.out a l.length c (arcCells l) rfl (arcCells_len l) HN.out (arcCells_one l) (by unfold maxLen; omega) (by omega) (by simp) ?_; intro v' w1 hown' hgrow _)
    go_ret
    refine ⟨_, rfl, (fr_alloc _ _ _).trans (append_fr0 HO.out hgrow) (fun j hj e => ?_), by simpa using hown'⟩
    simp [Value.ownBlock] at e
    omega

/-! ### DeleteFunc -/
/-- Block b holds the arcs of l, and whatever behind them. -/
def ArrAt (W : World) (b : Nat) (l : List ArcI) (tail : List Value) : Prop := W.heap[b]? = some (.cells (arcCells l ++ tail).toArray 65 (0, 0))
theorem ArrAt.arc {W : World} {b : Nat} {l : List ArcI} {tail : List Value} (h : ArrAt W b l tail) {j : Nat} (hj : j < l.length) : ArcAt W b (j * 3) (l.getD j default) := by
  have hlen := arcCells_len l
  have key : ∀ i, i < 3 → W.cell? ⟨b, j * 3 + i, none⟩ = (arcV l[j])[i]? := by
    intro i hi
    rw [← arcCells_get l j hj i hi]
    unfold ArrAt at h
    simp only [World.cell?, h]
    simp only [List.getElem?_toArray]
    rw [List.getElem?_append_left (by omega)]
    simp
  rw [List.getD_eq_getElem?_getD, List.getElem?_eq_getElem hj, Option.getD_some]
  exact ⟨key 0 (by omega), key 1 (by omega), key 2 (by omega)⟩
theorem ArrAt.frozen {W : World} {b : Nat} {l : List ArcI} {tail : List Value} (h : ArrAt W b l tail) (o : Nat) : W.frozen? ⟨b, o, none⟩ = false := by
  unfold ArrAt at h
  simp [World.frozen?, h]
def set3 (w : World) (b o : Nat) (a : ArcI) : World := ((w.setCell ⟨b, o, none⟩ (.int .i64 a.f)).setCell ⟨b, o + 1, none⟩ (.int .i64 a.t)).setCell ⟨b, o + 2, none⟩ (.int .i64 a.m)
theorem arcCells_set (l : List ArcI) (i : Nat) (a : ArcI) (tail : List Value) (hi : i < l.length) :
    arcCells (l.set i a) ++ tail = ((((arcCells l ++ tail).set (i * 3) (.int .i64 a.f)).set (i * 3 + 1) (.int .i64 a.t)).set (i * 3 + 2) (.int .i64 a.m)) := by
  induction l generalizing i with
  | nil => simp at hi
  | cons x l ih =>
    cases i with
    | zero => simp [arcCells, arcV]
    | succ i =>
      simp only [List.length_cons] at hi
      have := ih i (by omega)
      simp only [List.set_cons_succ, arcCells, List.flatMap_cons, List.append_assoc] at this ⊢
      rw [this]
      rw [show (i + 1) * 3 = i * 3 + 3 by omega]
      simp [arcV]
theorem heap_setCell_same {w : World} {b o t : Nat} {cs : Array Value} {f : Nat × Nat} (h : w.heap[b]? = some (.cells cs t f)) (v : Value) : (w.setCell ⟨b, o, none⟩ v).heap[b]? = some (.cells (cs.setIfInBounds o v) t f) := by
  simp only [World.setCell, Array.getElem?_modify, h, if_true]
  simp
theorem ArrAt.set3 {W : World} {b : Nat} {l : List ArcI} {tail : List Value} (h : ArrAt W b l tail) {i : Nat} (hi : i < l.length) (a : ArcI) : ArrAt (set3 W b (i * 3) a) b (l.set i a) tail := by
  unfold ArrAt at h ⊢
  rw [arcCells_set _ _ _ _ hi]
  have := heap_setCell_same (o := i * 3 + 2) (heap_setCell_same (o := i * 3 + 1) (heap_setCell_same (o := i * 3) h (.int .i64 a.f)) (.int .i64 a.t)) (.int .i64 a.m)
  rw [Go.Proofs.YtdcjfpjpboafnaaDoor.set3, this]
  simp
theorem fr_set3 (W : World) (b o : Nat) (a : ArcI) : Fr (fun k => k = b) W (set3 W b o a) :=
  ((fr_setCell (S := fun k => k = b) W ⟨b, o, none⟩ _ (fun _ => rfl)).setCell _ _ (fun _ => rfl)).setCell _ _ (fun _ => rfl)
theorem del_step {p : ArcI → Bool} {l arr : List ArcI} {i j : Nat} (hij : i < j) (hj : j < l.length) (hl : arr.length = l.length) (ht : arr.take i = (l.take j).filter (fun a => !p a)) (hd : arr.drop j = l.drop j) (hp : p (l.getD j default) = false) :
    (arr.set i (l.getD j default)).take (i + 1) = (l.take (j + 1)).filter (fun a => !p a) ∧ (arr.set i (l.getD j default)).drop (j + 1) = l.drop (j + 1) := by
  constructor
  · rw [take_snoc_a l j hj, List.filter_append, ← ht, take_snoc_a _ i (by simp; omega), List.take_set_of_le (Nat.le_refl _)]
    rw [List.getD_eq_getElem?_getD] at hp ⊢
    simp [hp, List.getD_eq_getElem?_getD, show i < arr.length by omega]
  · rw [List.drop_set_of_lt (by omega), ← List.drop_drop, ← List.drop_drop, hd]
theorem del_skip {p : ArcI → Bool} {l arr : List ArcI} {i j : Nat} (hj : j < l.length) (ht : arr.take i = (l.take j).filter (fun a => !p a)) (hd : arr.drop j = l.drop j) (hp : p (l.getD j default) = true) :
    arr.take i = (l.take (j + 1)).filter (fun a => !p a) ∧ arr.drop (j + 1) = l.drop (j + 1) := by
  constructor
  · rw [take_snoc_a l j hj, List.filter_append, ← ht]
    rw [List.getD_eq_getElem?_getD] at hp
    simp [hp]
  · rw [← List.drop_drop, ← List.drop_drop, hd]
theorem heap_setCells {b t : Nat} {f : Nat × Nat} : ∀ (vs : List Value) (o : Nat) (w : World) (cs : Array Value), w.heap[b]? = some (.cells cs t f) → ∃ cs', (w.setCells b o vs).heap[b]? = some (.cells cs' t f) ∧ cs'.size = cs.size ∧ ∀ k, k < o → cs'[k]? = cs[k]?
  | [], _, _, cs, h => ⟨cs, h, rfl, fun _ _ => rfl⟩
  | v :: r, o, w, cs, h => by
    obtain ⟨cs', h1, h2, h3⟩ := heap_setCells r (o + 1) _ _ (heap_setCell_same (o := o) h v)
    refine ⟨cs', h1, by simpa using h2, fun k hk => ?_⟩
    rw [h3 k (by omega), Array.getElem?_setIfInBounds_ne (by omega)]
theorem fr_setCells {b : Nat} : ∀ (vs : List Value) (o : Nat) (w : World), Fr (fun k => k = b) w (w.setCells b o vs)
  | [], _, w => Fr.refl _ _
  | v :: r, o, w => Fr.trans (fr_setCell w ⟨b, o, none⟩ v (fun _ => rfl)) (fr_setCells r (o + 1) _) (fun _ _ e => e)
theorem ArrAt.cut {W : World} {b : Nat} {l : List ArcI} {tail : List Value} (h : ArrAt W b l tail) {i : Nat} (hi : i ≤ l.length) (vs : List Value) : ∃ tail', ArrAt (W.setCells b (i * 3) vs) b (l.take i) tail' := by
  obtain ⟨cs', h1, h2, h3⟩ := heap_setCells vs (i * 3) W _ h
  refine ⟨cs'.toList.drop (i * 3), ?_⟩
  unfold ArrAt
  rw [h1]
  have e1 : cs'.toList.take (i * 3) = arcCells (l.take i) := by
    apply List.ext_getElem?
    intro k
    rw [List.getElem?_take]
    by_cases hk : k < i * 3
    · rw [if_pos hk]
      have := h3 k hk
      simp only [Array.getElem?_toList, this, List.getElem?_toArray]
      rw [List.getElem?_append_left (by rw [arcCells_len]; omega)]
      have e : arcCells l = arcCells (l.take i) ++ arcCells (l.drop i) := by
        simp only [arcCells, ← List.flatMap_append, List.take_append_drop]
      rw [e, List.getElem?_append_left (by rw [arcCells_len, List.length_take]; omega)]
    · rw [if_neg hk, List.getElem?_eq_none]
      rw [arcCells_len, List.length_take]; omega
  rw [← e1, List.take_append_drop]
theorem run_clear {W : World} {b : Nat} {l : List ArcI} {tail : List Value} (h : ArrAt W b l tail) {o n c : Nat} (hn : 0 < n) (ho : o + n * 3 ≤ l.length * 3) (ty : Nat) :
    ∃ vs, (Builtin.clear_ #[64] ty #[.slice (some ⟨b, o, none⟩) n c]).run Tryd.prog W = .ok (.tuple #[]) (W.setCells b o vs) := by
  obtain ⟨i0, hi, hz0, hz1, hz2⟩ := info_parts info_arc
  obtain ⟨n, rfl⟩ : ∃ m, n = m + 1 := ⟨n - 1, by omega⟩
  refine ⟨(Builtin.zeroCells #[.int .i64 0, .int .i64 0, .int .i64 0] (n + 1)).toList, ?_⟩
  have hlen : (Builtin.zeroCells #[.int .i64 0, .int .i64 0, .int .i64 0] (n + 1)).toList.length = (n + 1) * 3 := by simp [Builtin.zeroCells]
  have hst := run_storeCells_cells (P := Tryd.prog) b o (Builtin.zeroCells #[.int .i64 0, .int .i64 0, .int .i64 0] (n + 1)).toList 0 W (fun j hj => by
      unfold ArrAt at h
      rw [hlen] at hj
      have := arcCells_len l
      simp only [World.cell?, h]
      simp [show o + j < (arcCells l).length + tail.length by omega]) (fun j _ => h.frozen _) (by
      intro v hv
      simp only [Builtin.zeroCells, Array.toList_map, List.mem_map] at hv
      obtain ⟨j, _, rfl⟩ := hv
      have hm : j % 3 = 0 ∨ j % 3 = 1 ∨ j % 3 = 2 := by omega
      rcases hm with hm | hm | hm <;> simp [hm] <;> rfl)
  simp only [Builtin.clear_, List.getElem?_toArray, List.getElem?_cons_zero]
  simp [run_underlying Tryd.underlying64, zeroValue, typeInfo, hi, hz0, Result.andThen, Value.cells]
  rw [hst]
  simp only [Nat.add_zero]
def DelPost (W : World) (b cap : Nat) (l : List ArcI) (v : Value) (w' : World) : Prop :=
  v = .slice (some ⟨b, 0, none⟩) l.length cap ∧ Fr (fun k => k = b) W w' ∧ ∃ tail, ArrAt w' b l tail
set_option maxHeartbeats 2000000 in
theorem DeleteFunc_is {f : Nat} {caps : Array Value} {p : ArcI → Bool} {K : World → Prop} (hp : PredSpec f caps p K) (he : ∀ args w, (callFunc f args).run Tryd.prog w = .ok (.enter f args) w)
    {W : World} {b cap : Nat} {l : List ArcI} {tail : List Value} (hl : ArrAt W b l tail) (hlen : l.length ≤ 17592186044416) (hcap : l.length ≤ cap) (hK : ∀ W W', K W → Fr (fun k => k = b) W W' → K W') (h0 : K W) :
    Calls Tryd.prog 58 #[.slice (some ⟨b, 0, none⟩) l.length cap, .func (.func f) #[] caps] W (Rets (DelPost W b cap (l.filter (fun a => !p a)))) := by
  obtain ⟨r, hr⟩ : ∃ r, idxI p l = r := ⟨_, rfl⟩
  have hA : ArcsAt W (some ⟨b, 0, none⟩) l := ⟨hlen, .inr ⟨b, 0, rfl, fun j hj => by rw [Nat.zero_add]; exact hl.arc hj⟩⟩
  have HI := Lib.hid (IndexFunc_is (c := cap) hp (fun _ _ h f => hK _ _ h (f.mono (fun _ _ x => x.elim))) he hA h0)
  rw [hr] at HI
  have HP := Lib.hid hp
  have HK := Lib.hid hK
  clear hp hK
  by_cases hneg : r = -1
  · have hq := Lib.hid (idxI_neg (p := p) (l := l) (by rw [hr]; exact hneg))
    subst hneg
    have HR := Lib.hid hr
    clear hr
    go_enter Tryd.func58, Tryd.ntmps58
    go_wp2_with (go_at_call 57; refine HI.out.mono ?_; rintro e w2 ⟨_, rfl, rfl, h2⟩)
    go_ret
    rw [hq.out]
    exact ⟨_, rfl, rfl, h2.mono (fun _ _ x => x.elim), tail, h2.heap' hl⟩
  · obtain ⟨i0, hi0, hpi, hbef⟩ := idxI_pos (p := p) (l := l) (by rw [hr]; exact hneg)
    rw [hr] at hi0
    subst hi0
    obtain ⟨hlt0, hpi⟩ := hpi
    have hb0 : ((i0 : Int) == -1) = false := by simp
    have HB := Lib.hid hbef
    have HPI := Lib.hid hpi
    clear hr hneg hbef hpi
    go_enter Tryd.func58, Tryd.ntmps58
    go_wp2_with (go_at_call 57; refine HI.out.mono ?_; rintro e w2 ⟨_, rfl, rfl, h2⟩)
    go_loopw [5, 6] (fun vi vj wr => ∃ (i j : Nat) (arr : List ArcI), i < j ∧ j ≤ l.length ∧ vi = .int .i64 i ∧ vj = .int .i64 j ∧ Hid (arr.length = l.length) ∧ ArrAt wr b arr tail ∧ Hid (arr.take i = (l.take j).filter (fun a => !p a)) ∧ Hid (arr.drop j = l.drop j) ∧ Fr (fun k => k = b) W wr ∧ K wr) (fun _ vj _ => l.length - (intOf vj).toNat)
    case atStart =>
      refine ⟨i0, i0 + 1, l, by omega, by omega, rfl, by go_num, Lib.hid rfl, h2.heap' hl, Lib.hid ?_, Lib.hid rfl, h2.mono (fun _ _ x => x.elim), HK.out _ _ h0 (h2.mono (fun _ _ x => x.elim))⟩
      exact del_start hlt0 HPI.out HB.out
    case round =>
      obtain ⟨i, j, arr, hij, hj, rfl, rfl, HL, ha, HT, HD, hf, hk⟩ := hrel
      have hla := HL.out
      by_cases hlt : j < l.length
      · have hgd : arr.getD j default = l.getD j default := del_get HL.out HD.out hlt
        obtain ⟨c1, c2, c3⟩ := ha.arc (j := j) (by omega)
        rw [hgd] at c1 c2 c3
        clear hgd
        generalize hx : l.getD j default = x at c1 c2 c3
        have HX := Lib.hid hx
        clear hx hla
        have hj' : (j : Int) < (l.length : Int) := by omega
        have hi' : (i : Int) < (l.length : Int) := by omega
        have hf1 := ha.frozen (i * 3)
        have hf2 := ha.frozen (i * 3 + 1)
        have hf3 := ha.frozen (i * 3 + 2)
        obtain ⟨d1, d2, d3⟩ := ha.arc (j := i) (by have := HL.out; omega)
        have hk2 := HK.out _ _ hk ((fr_alloc (fun k => k = b) wr (.cells #[.int .i64 x.f, .int .i64 x.t, .int .i64 x.m] 65)))
        cases hpx : p x with
        | false =>
          have HPX := Lib.hid hpx
          clear hpx
          go_wp2_with fail
          refine (HP.out x _ hk2).mono ?_
          rintro e w3 ⟨_, rfl, h1, h3⟩
          rw [HPX.out] at h1
          subst h1
          have hbox : (wr.alloc (.cells #[.int .i64 x.f, .int .i64 x.t, .int .i64 x.m] 65)).heap[wr.heap.size]? = some (.cells #[.int .i64 x.f, .int .i64 x.t, .int .i64 x.m] 65 (0, 0)) := World.alloc_heap_new _ _
          have hbox3 := h3.heap' hbox
          have e1 : w3.cell? ⟨wr.heap.size, 0, none⟩ = some (.int .i64 x.f) := by simp [World.cell?, hbox3]
          have e2 : w3.cell? ⟨wr.heap.size, 1, none⟩ = some (.int .i64 x.t) := by simp [World.cell?, hbox3]
          have e3 : w3.cell? ⟨wr.heap.size, 2, none⟩ = some (.int .i64 x.m) := by simp [World.cell?, hbox3]
          have ha3 : ArrAt w3 b arr tail := h3.heap' (Fr.heap (fr_alloc (fun _ => False) _ _) ha (fun x => x))
          obtain ⟨d1, d2, d3⟩ := ha3.arc (j := i) (by have := HL.out; omega)
          have g1 := ha3.frozen (i * 3)
          have g2 := ha3.frozen (i * 3 + 1)
          have g3 := ha3.frozen (i * 3 + 2)
          clear hbox hbox3
          have hst := ha3.set3 (i := i) (by have := HL.out; omega) x
          have HS := Lib.hid hst
          clear hst
          go_wp2
          go_roundw
          case rel =>
            refine ⟨i + 1, j + 1, arr.set i x, by omega, by omega, by go_num, by go_num, Lib.hid (by rw [List.length_set]; exact HL.out), HS.out, Lib.hid ?_, Lib.hid ?_, ?_, ?_⟩
            · have := (del_step (p := p) hij hlt HL.out HT.out HD.out (by rw [HX.out]; exact HPX.out)).1
              rwa [HX.out] at this
            · have := (del_step (p := p) hij hlt HL.out HT.out HD.out (by rw [HX.out]; exact HPX.out)).2
              rwa [HX.out] at this
            · exact ((hf.alloc _).trans0 h3).trans (fr_set3 w3 b (i * 3) x) (fun _ _ e => e)
            · exact HK.out _ _ hk2 (Fr.trans (h3.mono (fun _ _ e => e.elim)) (fr_set3 w3 b (i * 3) x) (fun _ _ e => e))
          case measure => simp [intOf]; omega
        | true =>
          have HPX := Lib.hid hpx
          clear hpx
          go_wp2_with fail
          refine (HP.out x _ hk2).mono ?_
          rintro e w3 ⟨_, rfl, h1, h3⟩
          rw [HPX.out] at h1
          subst h1
          go_wp2
          go_roundw
          case rel =>
            obtain ⟨q1, q2⟩ := del_skip (p := p) hlt HT.out HD.out (by rw [HX.out]; exact HPX.out)
            exact ⟨i, j + 1, arr, by omega, by omega, rfl, by go_num, HL, h3.heap' (Fr.heap (fr_alloc (fun _ => False) _ _) ha (fun x => x)), Lib.hid q1, Lib.hid q2, (hf.alloc _).trans0 h3, HK.out _ _ hk2 (h3.mono (fun _ _ e => e.elim))⟩
          case measure => simp [intOf]; omega
      · obtain ⟨vs, hcl⟩ := run_clear (o := i * 3) (n := l.length - i) (c := cap - i) ha (by omega) (by have := HL.out; omega) 0
        obtain ⟨tail', hcut⟩ := ha.cut (i := i) (by have := HL.out; omega) vs
        have HC := Lib.hid hcut
        clear hcut hla
        go_wp2
        go_ret
        have e := HT.out
        rw [show j = l.length by omega, List.take_length] at e
        refine ⟨_, rfl, ?_, hf.trans (fr_setCells vs _ _) (fun _ _ e => e), tail', by rw [← e]; exact HC.out⟩
        have e2 : (l.filter (fun a => !p a)).length = i := by rw [← e, List.length_take]; have := HL.out; omega
        rw [e2]; rfl
end Go.Proofs.YtdcjfpjpboafnaaDoor
