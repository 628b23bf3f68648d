/- SpotDel, Step, StepB, in one text. -/
import Derived.Test.YtdcjfpjpboafnaaDoorNextS
import Derived.WalkSpells
import Derived.WalkLawsBesides
namespace Go.Proofs.YtdcjfpjpboafnaaDoor
set_option linter.all false
open Go.RowKit
set_option maxRecDepth 100000

structure ArcIP where
  f : Int
  t : Bool
  deriving DecidableEq
instance : Inhabited ArcIP := ⟨⟨0, false⟩⟩
def arcVP (a : ArcIP) : List Value := [.int .i64 a.f, .bool a.t]
def arcAP (a : ArcIP) : Value := .agg #[.int .i64 a.f, .bool a.t]
def arcCellsP (l : List ArcIP) : List Value := l.flatMap arcVP
theorem arcCells_lenP (l : List ArcIP) : (arcCellsP l).length = l.length * 2 := by
  induction l with
  | nil => rfl
  | cons a l ih => simp only [arcCellsP, List.flatMap_cons, List.length_append, List.length_cons] at ih ⊢; rw [ih]; simp [arcVP]; omega
theorem arcCells_getP (l : List ArcIP) (i : Nat) (h : i < l.length) (j : Nat) (hj : j < 2) : (arcCellsP l)[i * 2 + j]? = (arcVP l[i])[j]? := by
  induction l generalizing i with
  | nil => simp at h
  | cons a l ih =>
    cases i with
    | zero =>
      simp only [arcCellsP, List.flatMap_cons, Nat.zero_mul, Nat.zero_add, List.getElem_cons_zero]
      rw [List.getElem?_append_left (by simpa [arcVP] using hj)]
    | succ i =>
      simp only [List.length_cons] at h
      have := ih i (by omega)
      simp only [arcCellsP, List.flatMap_cons, List.getElem_cons_succ] at this ⊢
      rw [List.getElem?_append_right (by simp [arcVP]; omega), ← this]
      congr 1
      simp [arcVP]; omega

/-- The three cells of an arc. -/
def ArcAtP (W : World) (b o : Nat) (a : ArcIP) : Prop :=
  W.cell? ⟨b, o, none⟩ = some (.int .i64 a.f) ∧ W.cell? ⟨b, o + 1, none⟩ = some (.bool a.t)
/-- A row of arcs, where a slice's value says. -/
def ArcsAtP (W : World) (A : Option Addr) (l : List ArcIP) : Prop :=
  l.length ≤ 17592186044416 ∧ (l = [] ∨ ∃ b o, A = some ⟨b, o, none⟩ ∧ ∀ j, j < l.length → ArcAtP W b (o + j * 2) (l.getD j default))
section
variable {W W' : World} {A : Option Addr} {l : List ArcIP}
theorem ArcAtP.fr {S : Nat → Prop} {b o : Nat} {a : ArcIP} (h : ArcAtP W b o a) (f : Fr S W W') (hs : ¬ S b) : ArcAtP W' b o a := ⟨f.cell h.1 hs, f.cell h.2 hs⟩
theorem ArcAtP.grow {B b o : Nat} {a : ArcIP} (h : ArcAtP W b o a) (f : Grow B W W') : ArcAtP W' b o a := ⟨f.cell h.1, f.cell h.2⟩
theorem ArcsAtP.grow {B : Nat} (h : ArcsAtP W A l) (f : Grow B W W') : ArcsAtP W' A l := by
  refine ⟨h.1, h.2.imp id ?_⟩
  rintro ⟨b, o, e, hc⟩
  exact ⟨b, o, e, fun j hj => (hc j hj).grow f⟩
theorem ArcsAtP.fr0 (h : ArcsAtP W A l) (f : Fr0 W W') : ArcsAtP W' A l := h.grow (Fr0.grow f 0)
end

/-- What a function value answers of an arc: it may lay blocks, no more. -/
def PredPostP (b : Bool) (W : World) (v : Value) (w' : World) : Prop := v = .bool b ∧ Fr0 W w'
def PredSpecP (f : Nat) (caps : Array Value) (p : ArcIP → Bool) (K : World → Prop) : Prop :=
  ∀ (a : ArcIP) (W : World), K W → Calls Tryd.prog f (#[.agg #[.int .i64 a.f, .bool a.t]] ++ caps) W (Rets (PredPostP (p a) W))
def idxIP (p : ArcIP → Bool) (l : List ArcIP) : Int := match l.findIdx? p with | some i => (i : Int) | none => -1
theorem idxI_atP {p : ArcIP → Bool} {l : List ArcIP} {j : Nat} (hj : j < l.length) (h : p (l.getD j default) = true) (hn : ∀ i, i < j → p (l.getD i default) = false) : idxIP p l = (j : Int) := by
  have : l.findIdx? p = some j := by
    rw [List.findIdx?_eq_some_iff_getElem]
    refine ⟨hj, by simpa [List.getD_eq_getElem?_getD, List.getElem?_eq_getElem hj] using h, fun i hi => ?_⟩
    have := hn i hi
    simpa [List.getD_eq_getElem?_getD, List.getElem?_eq_getElem (show i < l.length by omega)] using this
  simp [idxIP, this]
theorem idxI_noneP {p : ArcIP → Bool} {l : List ArcIP} (hn : ∀ i, i < l.length → p (l.getD i default) = false) : idxIP p l = -1 := by
  have : l.findIdx? p = none := by
    rw [List.findIdx?_eq_none_iff]
    intro x hx
    obtain ⟨i, hi, rfl⟩ := List.mem_iff_getElem.1 hx
    have := hn i hi
    simpa [List.getD_eq_getElem?_getD, List.getElem?_eq_getElem hi] using this
  simp [idxIP, this]
theorem idxI_anyP {p : ArcIP → Bool} {l : List ArcIP} : (0 ≤ idxIP p l) = (l.any p = true) := by
  unfold idxIP
  cases h : l.findIdx? p with
  | none =>
    rw [List.findIdx?_eq_none_iff] at h
    have : l.any p = false := by rw [List.any_eq_false]; intro x hx; simp [h x hx]
    simp [this]
  | some i =>
    rw [List.findIdx?_eq_some_iff_getElem] at h
    obtain ⟨hi, hp, _⟩ := h
    have : l.any p = true := by rw [List.any_eq_true]; exact ⟨_, List.getElem_mem hi, hp⟩
    simp [this]
theorem idxI_negP {p : ArcIP → Bool} {l : List ArcIP} (h : idxIP p l = -1) : l.filter (fun a => !p a) = l := by
  have : l.any p = false := by
    cases hx : l.any p with
    | false => rfl
    | true => have := @idxI_anyP p l; rw [hx, h] at this; simp at this
  rw [List.any_eq_false] at this
  rw [List.filter_eq_self]
  intro a ha
  have := this a ha
  simpa using this
theorem idxI_posP {p : ArcIP → Bool} {l : List ArcIP} (h : idxIP p l ≠ -1) : ∃ i : Nat, idxIP p l = (i : Int) ∧ (i < l.length ∧ p (l.getD i default) = true) ∧ ∀ j, j < i → p (l.getD j default) = false := by
  unfold idxIP at h ⊢
  cases hx : l.findIdx? p with
  | none => rw [hx] at h; exact absurd rfl h
  | some i =>
    rw [List.findIdx?_eq_some_iff_getElem] at hx
    obtain ⟨hi, hp, hn⟩ := hx
    refine ⟨i, rfl, ⟨hi, by simpa [List.getD_eq_getElem?_getD, List.getElem?_eq_getElem hi] using hp⟩, fun j hj => ?_⟩
    have := hn j hj
    simpa [List.getD_eq_getElem?_getD, List.getElem?_eq_getElem (show j < l.length by omega)] using this
theorem take_snoc_aP (l : List ArcIP) (j : Nat) (h : j < l.length) : l.take (j + 1) = l.take j ++ [l.getD j default] := by
  rw [List.take_succ_eq_append_getElem h]; simp [List.getD_eq_getElem?_getD, List.getElem?_eq_getElem h]
theorem del_startP {p : ArcIP → Bool} {l : List ArcIP} {i : Nat} (hi : i < l.length) (hp : p (l.getD i default) = true) (hn : ∀ j, j < i → p (l.getD j default) = false) : l.take i = (l.take (i + 1)).filter (fun a => !p a) := by
  rw [take_snoc_aP l i hi, List.filter_append]
  have h1 : (l.take i).filter (fun a => !p a) = l.take i := by
    rw [List.filter_eq_self]
    intro a ha
    obtain ⟨j, hj, rfl⟩ := List.mem_iff_getElem.1 ha
    have := hn j (by simp at hj; omega)
    simp at hj
    simpa [List.getD_eq_getElem?_getD, List.getElem?_eq_getElem (show j < l.length by omega)] using this
  rw [h1]
  rw [List.getD_eq_getElem?_getD] at hp
  simp [hp]
theorem del_getP {l arr : List ArcIP} {j : Nat} (hl : arr.length = l.length) (hd : arr.drop j = l.drop j) (hj : j < l.length) : arr.getD j default = l.getD j default := by
  have := congrArg (fun l => l[0]?) hd
  simp only [List.getElem?_drop, Nat.add_zero] at this
  simp [List.getD_eq_getElem?_getD, this]
def IdxPostP (r : Int) (W : World) (v : Value) (w' : World) : Prop := v = .int .i64 r ∧ Fr0 W w'
set_option maxHeartbeats 1000000 in
theorem IndexFunc_isP {f : Nat} {caps : Array Value} {p : ArcIP → Bool} {K : World → Prop} (hp : PredSpecP f caps p K) (hK : ∀ W W', K W → Fr0 W W' → K W') (he : ∀ args w, (callFunc f args).run Tryd.prog w = .ok (.enter f args) w)
    {W : World} {A : Option Addr} {c : Nat} {l : List ArcIP} (hl : ArcsAtP W A l) (h0 : K W) :
    Calls Tryd.prog 67 #[.slice A l.length c, .func (.func f) #[] caps] W (Rets (IdxPostP (idxIP p l) W)) := by
  obtain ⟨hlen, hA⟩ := hl
  have HP := Lib.hid hp
  have HK := Lib.hid hK
  clear hp hK
  go_enter Tryd.func67, Tryd.ntmps67
  go_wp2
  go_loopw [8] (fun i wr => ∃ j : Nat, j ≤ l.length ∧ i = .int .i64 j ∧ Fr0 W wr ∧ K wr ∧ Hid (∀ i, i < j → p (l.getD i default) = false)) (fun i _ => l.length - (intOf i).toNat)
  case atStart => exact ⟨0, Nat.zero_le _, rfl, Fr.refl _ _, h0, Lib.hid (fun i hi => by omega)⟩
  case round =>
    obtain ⟨j, hj, rfl, hf, hk, HN⟩ := hrel
    by_cases hlt : j < l.length
    · rcases hA with hA | ⟨b, o, rfl, hc⟩
      · subst hA; simp at hlt
      · obtain ⟨c1, c2⟩ := (hc j hlt).fr hf (fun x => x)
        have hj' : (j : Int) < (l.length : Int) := by omega
        generalize hx : l.getD j default = x at c1 c2
        have HX := Lib.hid hx
        clear hx
        cases hpx : p x with
        | false =>
          have HPX := Lib.hid hpx
          clear hpx
          go_wp2
          refine (HP.out x _ hk).mono ?_
          rintro e w2 ⟨_, rfl, h1, h2⟩
          rw [HPX.out] at h1
          subst h1
          have hk2 := HK.out _ _ hk h2
          go_wp2
          go_roundw
          case rel => exact ⟨j + 1, by omega, by go_num, hf.trans0 h2, hk2, Lib.hid (fun i hi => by
            by_cases e : i = j
            · rw [e, HX.out]; exact HPX.out
            · exact HN.out i (by omega))⟩
          case measure => simp [intOf]; omega
        | true =>
          have HPX := Lib.hid hpx
          clear hpx
          go_wp2
          refine (HP.out x _ hk).mono ?_
          rintro e w2 ⟨_, rfl, h1, h2⟩
          rw [HPX.out] at h1
          subst h1
          go_wp2
          go_ret
          refine ⟨_, rfl, ?_, hf.trans0 h2⟩
          have : idxIP p l = (j : Int) := idxI_atP hlt (by rw [HX.out]; exact HPX.out) HN.out
          rw [this]; rfl
    · go_wp2
      go_ret
      refine ⟨_, rfl, ?_, hf⟩
      have : idxIP p l = -1 := idxI_noneP (fun i hi => HN.out i (by omega))
      rw [this]; rfl

/-! ### ContainsFunc -/
/-! ### Clone -/
theorem info_arcP : (Tryd.prog.info? 63).map (fun i => (i.zero, i.size, i.bytes)) = some (some (.agg #[.int .i64 0, .bool false]), 2, 16) := by kernel_rfl
theorem arcCells_oneP (l : List ArcIP) : ∀ u ∈ arcCellsP l, u.oneCell' = true := by
  intro u hu
  simp only [arcCellsP, List.mem_flatMap, arcVP] at hu
  obtain ⟨a, _, h⟩ := hu
  simp at h
  rcases h with rfl | rfl | rfl <;> rfl
/-! ### DeleteFunc -/
/-- Block b holds the arcs of l, and whatever behind them. -/
def ArrAtP (W : World) (b : Nat) (l : List ArcIP) (tail : List Value) : Prop := W.heap[b]? = some (.cells (arcCellsP l ++ tail).toArray 63 (0, 0))
theorem ArrAtP.arc {W : World} {b : Nat} {l : List ArcIP} {tail : List Value} (h : ArrAtP W b l tail) {j : Nat} (hj : j < l.length) : ArcAtP W b (j * 2) (l.getD j default) := by
  have hlen := arcCells_lenP l
  have key : ∀ i, i < 2 → W.cell? ⟨b, j * 2 + i, none⟩ = (arcVP l[j])[i]? := by
    intro i hi
    rw [← arcCells_getP l j hj i hi]
    unfold ArrAtP at h
    simp only [World.cell?, h]
    simp only [List.getElem?_toArray]
    rw [List.getElem?_append_left (by omega)]
    simp
  rw [List.getD_eq_getElem?_getD, List.getElem?_eq_getElem hj, Option.getD_some]
  exact ⟨key 0 (by omega), key 1 (by omega)⟩
theorem ArrAtP.frozen {W : World} {b : Nat} {l : List ArcIP} {tail : List Value} (h : ArrAtP W b l tail) (o : Nat) : W.frozen? ⟨b, o, none⟩ = false := by
  unfold ArrAtP at h
  simp [World.frozen?, h]
def set3P (w : World) (b o : Nat) (a : ArcIP) : World := (w.setCell ⟨b, o, none⟩ (.int .i64 a.f)).setCell ⟨b, o + 1, none⟩ (.bool a.t)
theorem arcCells_setP (l : List ArcIP) (i : Nat) (a : ArcIP) (tail : List Value) (hi : i < l.length) :
    arcCellsP (l.set i a) ++ tail = (((arcCellsP l ++ tail).set (i * 2) (.int .i64 a.f)).set (i * 2 + 1) (.bool a.t)) := by
  induction l generalizing i with
  | nil => simp at hi
  | cons x l ih =>
    cases i with
    | zero => simp [arcCellsP, arcVP]
    | succ i =>
      simp only [List.length_cons] at hi
      have := ih i (by omega)
      simp only [List.set_cons_succ, arcCellsP, List.flatMap_cons, List.append_assoc] at this ⊢
      rw [this]
      rw [show (i + 1) * 2 = i * 2 + 2 by omega]
      simp [arcVP]
theorem ArrAtP.set3P {W : World} {b : Nat} {l : List ArcIP} {tail : List Value} (h : ArrAtP W b l tail) {i : Nat} (hi : i < l.length) (a : ArcIP) : ArrAtP (set3P W b (i * 2) a) b (l.set i a) tail := by
  unfold ArrAtP at h ⊢
  rw [arcCells_setP _ _ _ _ hi]
  have := heap_setCell_same (o := i * 2 + 1) (heap_setCell_same (o := i * 2) h (.int .i64 a.f)) (.bool a.t)
  rw [Go.Proofs.YtdcjfpjpboafnaaDoor.set3P, this]
  simp
theorem fr_set3P (W : World) (b o : Nat) (a : ArcIP) : Fr (fun k => k = b) W (set3P W b o a) :=
  (fr_setCell (S := fun k => k = b) W ⟨b, o, none⟩ _ (fun _ => rfl)).setCell _ _ (fun _ => rfl)
theorem del_stepP {p : ArcIP → Bool} {l arr : List ArcIP} {i j : Nat} (hij : i < j) (hj : j < l.length) (hl : arr.length = l.length) (ht : arr.take i = (l.take j).filter (fun a => !p a)) (hd : arr.drop j = l.drop j) (hp : p (l.getD j default) = false) :
    (arr.set i (l.getD j default)).take (i + 1) = (l.take (j + 1)).filter (fun a => !p a) ∧ (arr.set i (l.getD j default)).drop (j + 1) = l.drop (j + 1) := by
  constructor
  · rw [take_snoc_aP l j hj, List.filter_append, ← ht, take_snoc_aP _ i (by simp; omega), List.take_set_of_le (Nat.le_refl _)]
    rw [List.getD_eq_getElem?_getD] at hp ⊢
    simp [hp, List.getD_eq_getElem?_getD, show i < arr.length by omega]
  · rw [List.drop_set_of_lt (by omega), ← List.drop_drop, ← List.drop_drop, hd]
theorem del_skipP {p : ArcIP → Bool} {l arr : List ArcIP} {i j : Nat} (hj : j < l.length) (ht : arr.take i = (l.take j).filter (fun a => !p a)) (hd : arr.drop j = l.drop j) (hp : p (l.getD j default) = true) :
    arr.take i = (l.take (j + 1)).filter (fun a => !p a) ∧ arr.drop (j + 1) = l.drop (j + 1) := by
  constructor
  · rw [take_snoc_aP l j hj, List.filter_append, ← ht]
    rw [List.getD_eq_getElem?_getD] at hp
    simp [hp]
  · rw [← List.drop_drop, ← List.drop_drop, hd]
theorem ArrAtP.cut {W : World} {b : Nat} {l : List ArcIP} {tail : List Value} (h : ArrAtP W b l tail) {i : Nat} (hi : i ≤ l.length) (vs : List Value) : ∃ tail', ArrAtP (W.setCells b (i * 2) vs) b (l.take i) tail' := by
  obtain ⟨cs', h1, h2, h3⟩ := heap_setCells vs (i * 2) W _ h
  refine ⟨cs'.toList.drop (i * 2), ?_⟩
  unfold ArrAtP
  rw [h1]
  have e1 : cs'.toList.take (i * 2) = arcCellsP (l.take i) := by
    apply List.ext_getElem?
    intro k
    rw [List.getElem?_take]
    by_cases hk : k < i * 2
    · rw [if_pos hk]
      have := h3 k hk
      simp only [Array.getElem?_toList, this, List.getElem?_toArray]
      rw [List.getElem?_append_left (by rw [arcCells_lenP]; omega)]
      have e : arcCellsP l = arcCellsP (l.take i) ++ arcCellsP (l.drop i) := by
        simp only [arcCellsP, ← List.flatMap_append, List.take_append_drop]
      rw [e, List.getElem?_append_left (by rw [arcCells_lenP, List.length_take]; omega)]
    · rw [if_neg hk, List.getElem?_eq_none]
      rw [arcCells_lenP, List.length_take]; omega
  rw [← e1, List.take_append_drop]
theorem run_clearP {W : World} {b : Nat} {l : List ArcIP} {tail : List Value} (h : ArrAtP W b l tail) {o n c : Nat} (hn : 0 < n) (ho : o + n * 2 ≤ l.length * 2) (ty : Nat) :
    ∃ vs, (Builtin.clear_ #[72] ty #[.slice (some ⟨b, o, none⟩) n c]).run Tryd.prog W = .ok (.tuple #[]) (W.setCells b o vs) := by
  obtain ⟨i0, hi, hz0, hz1, hz2⟩ := info_parts info_arcP
  obtain ⟨n, rfl⟩ : ∃ m, n = m + 1 := ⟨n - 1, by omega⟩
  refine ⟨(Builtin.zeroCells #[.int .i64 0, .bool false] (n + 1)).toList, ?_⟩
  have hlen : (Builtin.zeroCells #[.int .i64 0, .bool false] (n + 1)).toList.length = (n + 1) * 2 := by simp [Builtin.zeroCells]
  have hst := run_storeCells_cells (P := Tryd.prog) b o (Builtin.zeroCells #[.int .i64 0, .bool false] (n + 1)).toList 0 W (fun j hj => by
      unfold ArrAtP at h
      rw [hlen] at hj
      have := arcCells_lenP l
      simp only [World.cell?, h]
      simp [show o + j < (arcCellsP l).length + tail.length by omega]) (fun j _ => h.frozen _) (by
      intro v hv
      simp only [Builtin.zeroCells, Array.toList_map, List.mem_map] at hv
      obtain ⟨j, _, rfl⟩ := hv
      have hm : j % 2 = 0 ∨ j % 2 = 1 := by omega
      rcases hm with hm | hm <;> simp [hm] <;> rfl)
  simp only [Builtin.clear_, List.getElem?_toArray, List.getElem?_cons_zero]
  simp [run_underlying Tryd.underlying72, zeroValue, typeInfo, hi, hz0, Result.andThen, Value.cells]
  rw [hst]
  simp only [Nat.add_zero]
def DelPostP (W : World) (b cap : Nat) (l : List ArcIP) (v : Value) (w' : World) : Prop :=
  v = .slice (some ⟨b, 0, none⟩) l.length cap ∧ Fr (fun k => k = b) W w' ∧ ∃ tail, ArrAtP w' b l tail
set_option maxHeartbeats 2000000 in
theorem DeleteFunc_isP {f : Nat} {caps : Array Value} {p : ArcIP → Bool} {K : World → Prop} (hp : PredSpecP f caps p K) (he : ∀ args w, (callFunc f args).run Tryd.prog w = .ok (.enter f args) w)
    {W : World} {b cap : Nat} {l : List ArcIP} {tail : List Value} (hl : ArrAtP W b l tail) (hlen : l.length ≤ 17592186044416) (hcap : l.length ≤ cap) (hK : ∀ W W', K W → Fr (fun k => k = b) W W' → K W') (h0 : K W) :
    Calls Tryd.prog 46 #[.slice (some ⟨b, 0, none⟩) l.length cap, .func (.func f) #[] caps] W (Rets (DelPostP W b cap (l.filter (fun a => !p a)))) := by
  obtain ⟨r, hr⟩ : ∃ r, idxIP p l = r := ⟨_, rfl⟩
  have hA : ArcsAtP W (some ⟨b, 0, none⟩) l := ⟨hlen, .inr ⟨b, 0, rfl, fun j hj => by rw [Nat.zero_add]; exact hl.arc hj⟩⟩
  have HI := Lib.hid (IndexFunc_isP (c := cap) hp (fun _ _ h f => hK _ _ h (f.mono (fun _ _ x => x.elim))) he hA h0)
  rw [hr] at HI
  have HP := Lib.hid hp
  have HK := Lib.hid hK
  clear hp hK
  by_cases hneg : r = -1
  · have hq := Lib.hid (idxI_negP (p := p) (l := l) (by rw [hr]; exact hneg))
    subst hneg
    have HR := Lib.hid hr
    clear hr
    go_enter Tryd.func46, Tryd.ntmps46
    go_wp2_with (go_at_call 67; refine HI.out.mono ?_; rintro e w2 ⟨_, rfl, rfl, h2⟩)
    go_ret
    rw [hq.out]
    exact ⟨_, rfl, rfl, h2.mono (fun _ _ x => x.elim), tail, h2.heap' hl⟩
  · obtain ⟨i0, hi0, hpi, hbef⟩ := idxI_posP (p := p) (l := l) (by rw [hr]; exact hneg)
    rw [hr] at hi0
    subst hi0
    obtain ⟨hlt0, hpi⟩ := hpi
    have hb0 : ((i0 : Int) == -1) = false := by simp
    have HB := Lib.hid hbef
    have HPI := Lib.hid hpi
    clear hr hneg hbef hpi
    go_enter Tryd.func46, Tryd.ntmps46
    go_wp2_with (go_at_call 67; refine HI.out.mono ?_; rintro e w2 ⟨_, rfl, rfl, h2⟩)
    go_loopw [5, 6] (fun vi vj wr => ∃ (i j : Nat) (arr : List ArcIP), i < j ∧ j ≤ l.length ∧ vi = .int .i64 i ∧ vj = .int .i64 j ∧ Hid (arr.length = l.length) ∧ ArrAtP wr b arr tail ∧ Hid (arr.take i = (l.take j).filter (fun a => !p a)) ∧ Hid (arr.drop j = l.drop j) ∧ Fr (fun k => k = b) W wr ∧ K wr) (fun _ vj _ => l.length - (intOf vj).toNat)
    case atStart =>
      refine ⟨i0, i0 + 1, l, by omega, by omega, rfl, by go_num, Lib.hid rfl, h2.heap' hl, Lib.hid ?_, Lib.hid rfl, h2.mono (fun _ _ x => x.elim), HK.out _ _ h0 (h2.mono (fun _ _ x => x.elim))⟩
      exact del_startP hlt0 HPI.out HB.out
    case round =>
      obtain ⟨i, j, arr, hij, hj, rfl, rfl, HL, ha, HT, HD, hf, hk⟩ := hrel
      have hla := HL.out
      by_cases hlt : j < l.length
      · have hgd : arr.getD j default = l.getD j default := del_getP HL.out HD.out hlt
        obtain ⟨c1, c2⟩ := ha.arc (j := j) (by omega)
        rw [hgd] at c1 c2
        clear hgd
        generalize hx : l.getD j default = x at c1 c2
        have HX := Lib.hid hx
        clear hx hla
        have hj' : (j : Int) < (l.length : Int) := by omega
        have hi' : (i : Int) < (l.length : Int) := by omega
        have hf1 := ha.frozen (i * 2)
        have hf2 := ha.frozen (i * 2 + 1)
        obtain ⟨d1, d2⟩ := ha.arc (j := i) (by have := HL.out; omega)
        have hk2 := HK.out _ _ hk ((fr_alloc (fun k => k = b) wr (.cells #[.int .i64 x.f, .bool x.t] 63)))
        cases hpx : p x with
        | false =>
          have HPX := Lib.hid hpx
          clear hpx
          go_wp2_with fail
          refine (HP.out x _ hk2).mono ?_
          rintro e w3 ⟨_, rfl, h1, h3⟩
          rw [HPX.out] at h1
          subst h1
          have hbox : (wr.alloc (.cells #[.int .i64 x.f, .bool x.t] 63)).heap[wr.heap.size]? = some (.cells #[.int .i64 x.f, .bool x.t] 63 (0, 0)) := World.alloc_heap_new _ _
          have hbox3 := h3.heap' hbox
          have e1 : w3.cell? ⟨wr.heap.size, 0, none⟩ = some (.int .i64 x.f) := by simp [World.cell?, hbox3]
          have e2 : w3.cell? ⟨wr.heap.size, 1, none⟩ = some (.bool x.t) := by simp [World.cell?, hbox3]
          have ha3 : ArrAtP w3 b arr tail := h3.heap' (Fr.heap (fr_alloc (fun _ => False) _ _) ha (fun x => x))
          obtain ⟨d1, d2⟩ := ha3.arc (j := i) (by have := HL.out; omega)
          have g1 := ha3.frozen (i * 2)
          have g2 := ha3.frozen (i * 2 + 1)
          clear hbox hbox3
          have hst := ha3.set3P (i := i) (by have := HL.out; omega) x
          have HS := Lib.hid hst
          clear hst
          go_wp2
          go_roundw
          case rel =>
            refine ⟨i + 1, j + 1, arr.set i x, by omega, by omega, by go_num, by go_num, Lib.hid (by rw [List.length_set]; exact HL.out), HS.out, Lib.hid ?_, Lib.hid ?_, ?_, ?_⟩
            · have := (del_stepP (p := p) hij hlt HL.out HT.out HD.out (by rw [HX.out]; exact HPX.out)).1
              rwa [HX.out] at this
            · have := (del_stepP (p := p) hij hlt HL.out HT.out HD.out (by rw [HX.out]; exact HPX.out)).2
              rwa [HX.out] at this
            · exact ((hf.alloc _).trans0 h3).trans (fr_set3P w3 b (i * 2) x) (fun _ _ e => e)
            · exact HK.out _ _ hk2 (Fr.trans (h3.mono (fun _ _ e => e.elim)) (fr_set3P w3 b (i * 2) x) (fun _ _ e => e))
          case measure => simp [intOf]; omega
        | true =>
          have HPX := Lib.hid hpx
          clear hpx
          go_wp2_with fail
          refine (HP.out x _ hk2).mono ?_
          rintro e w3 ⟨_, rfl, h1, h3⟩
          rw [HPX.out] at h1
          subst h1
          go_wp2
          go_roundw
          case rel =>
            obtain ⟨q1, q2⟩ := del_skipP (p := p) hlt HT.out HD.out (by rw [HX.out]; exact HPX.out)
            exact ⟨i, j + 1, arr, by omega, by omega, rfl, by go_num, HL, h3.heap' (Fr.heap (fr_alloc (fun _ => False) _ _) ha (fun x => x)), Lib.hid q1, Lib.hid q2, (hf.alloc _).trans0 h3, HK.out _ _ hk2 (h3.mono (fun _ _ e => e.elim))⟩
          case measure => simp [intOf]; omega
      · obtain ⟨vs, hcl⟩ := run_clearP (o := i * 2) (n := l.length - i) (c := cap - i) ha (by omega) (by have := HL.out; omega) 0
        obtain ⟨tail', hcut⟩ := ha.cut (i := i) (by have := HL.out; omega) vs
        have HC := Lib.hid hcut
        clear hcut hla
        go_wp2
        go_ret
        have e := HT.out
        rw [show j = l.length by omega, List.take_length] at e
        refine ⟨_, rfl, ?_, hf.trans (fr_setCells vs _ _) (fun _ _ e => e), tail', by rw [← e]; exact HC.out⟩
        have e2 : (l.filter (fun a => !p a)).length = i := by rw [← e, List.length_take]; have := HL.out; omega
        rw [e2]; rfl
end Go.Proofs.YtdcjfpjpboafnaaDoor
namespace Go.Proofs.YtdcjfpjpboafnaaDoor
set_option linter.all false
open Go.RowKit
set_option maxRecDepth 100000

/-- A spot, as the library's functions take it. -/
def toP (x : Int × Bool) : ArcIP := ⟨x.1, x.2⟩
theorem cells_toP (l : List (Int × Bool)) : arcCellsP (l.map toP) = sptCells l := by
  induction l with
  | nil => rfl
  | cons x l ih => simp only [List.map_cons, arcCellsP, sptCells, List.flatMap_cons] at ih ⊢; rw [ih]; rfl
theorem filter_toP (l : List (Int × Bool)) (p : ArcIP → Bool) : (l.map toP).filter p = (l.filter (fun x => p (toP x))).map toP := by
  rw [List.filter_map]; rfl
/-- Block b holds the spots of l, and whatever behind them. -/
def SptArr (W : World) (b : Nat) (l : List (Int × Bool)) : Prop := ∃ tail, ArrAtP W b (l.map toP) tail
theorem SptArr.at_ {W : World} {b : Nat} {l : List (Int × Bool)} (h : SptArr W b l) (hl : l.length ≤ 17592186044416) : SptsAt W (some ⟨b, 0, none⟩) l := by
  obtain ⟨tail, h⟩ := h
  refine ⟨hl, .inr ⟨b, 0, rfl, fun j hj => ?_⟩⟩
  have hj' : j < (l.map toP).length := by simpa using hj
  have := h.arc hj'
  obtain ⟨h1, h2⟩ := this
  have e : (l.map toP).getD j default = toP (l.getD j (0, false)) := by simp [List.getD_eq_getElem?_getD, List.getElem?_eq_getElem hj]
  rw [e] at h1 h2
  rw [Nat.zero_add]
  exact ⟨h1, h2⟩
theorem own_arrS {W : World} {B b n c : Nat} {l : List (Int × Bool)} (h : W.ownsRow B 63 2 (.slice (some ⟨b, 0, none⟩) n c) l.length (sptCells l)) : SptArr W b l ∧ l.length ≤ c ∧ n = l.length := by
  rcases h.2 with ⟨e, _⟩ | ⟨g, cap, cur, e, hg, hh, h1, h2, h3, h4⟩
  · cases e
  · cases e
    refine ⟨⟨cur.toList.drop (l.length * 2), ?_⟩, h1, rfl⟩
    unfold ArrAtP
    rw [cells_toP, ← h4, List.take_append_drop, hh]
/-- The spots to which arcs lead from one, that are so far. -/
def nextS (far : Nat → Bool → Option Nat) (m : Int) (J : List ArcI) (pw : Nat → Bool) (a b c : Int) (s : Nat × Bool) : List (Int × Bool) :=
  if s.2 = true then keepsL far m true [] (nextL J s.1 c pw) else keepsL far m true (keepsL far m false [] (nextL J s.1 a pw)) (nextL J s.1 b pw)
theorem nextS_len (far : Nat → Bool → Option Nat) (m : Int) (J : List ArcI) (pw : Nat → Bool) (a b c : Int) (s : Nat × Bool) : (nextS far m J pw a b c s).length ≤ 2 * J.length := by
  unfold nextS
  split
  · have h1 := keepsL_len far m true (nextL J s.1 c pw) []
    have h2 := nextL_len J s.1 c pw
    simp only [List.length_nil] at h1; omega
  · have h1 := keepsL_len far m true (nextL J s.1 b pw) (keepsL far m false [] (nextL J s.1 a pw))
    have h2 := nextL_len J s.1 b pw
    have h3 := keepsL_len far m false (nextL J s.1 a pw) []
    have h4 := nextL_len J s.1 a pw
    simp only [List.length_nil] at h3; omega
theorem NextA_is {W : World} {q wg wa n g : Nat} {r pt : Option Addr} {J : List ArcI} {pw : Nat → Bool} {a b c m : Int} {far : Nat → Bool → Option Nat} (h : FinAsk W q r wg wa n pw a b c far)
    (hR : IsR W r (some ⟨g, 0, none⟩) pt) (hG : GP W (some ⟨g, 0, none⟩) n J) (hJ : J.length ≤ 100000) (hpw : ∀ u, pw u = true → u < n) (hn : n ≤ 1000) {s : Nat × Bool} (hu : s.1 < n) :
    Calls Tryd.prog 45 #[.pointer (some ⟨q, 0, none⟩), .agg #[.int .i64 (s.1 : Int), .bool s.2], .int .i64 m] W (Rets (SptsPost W (nextS far m J pw a b c s))) := by
  obtain ⟨u, d⟩ := s
  cases d with
  | true => exact NextS_yes h hR hG hJ hpw hn hu
  | false => exact NextS_no h hR hG hJ hpw hn hu
theorem Step1_is (bb : Nat) (best : Int) : PredSpecP 47 #[.pointer (some ⟨bb, 0, none⟩)] (fun a => a.f != best) (fun W => Box W bb 3 (.int .i64 best)) := by
  intro a W hb
  have c0 := (hb.fr0 (fr_alloc _ W (.cells #[.int .i64 a.f, .bool a.t] 63))).cell
  cases e : (a.f != best) with
  | true =>
    go_enter Tryd.func47, Tryd.ntmps47
    go_wp2
    go_ret
    exact ⟨_, rfl, by rw [e]; rfl, fr_alloc _ _ _⟩
  | false =>
    go_enter Tryd.func47, Tryd.ntmps47
    go_wp2
    go_ret
    exact ⟨_, rfl, by rw [e]; rfl, fr_alloc _ _ _⟩
end Go.Proofs.YtdcjfpjpboafnaaDoor
namespace Go.Proofs.YtdcjfpjpboafnaaDoor
set_option linter.all false
open Go.RowKit
set_option maxRecDepth 100000

def minS (b : Int) (l : List (Int × Bool)) : Int := l.foldl (fun b s => if s.1 < b then s.1 else b) b
theorem minS_snoc (b : Int) (l : List (Int × Bool)) (x : Int × Bool) : minS b (l ++ [x]) = if x.1 < minS b l then x.1 else minS b l := by unfold minS; rw [List.foldl_append]; rfl
def allS (far : Nat → Bool → Option Nat) (m : Int) (J : List ArcI) (pw : Nat → Bool) (a b c : Int) (l : List (Nat × Bool)) : List (Int × Bool) := l.flatMap (nextS far m J pw a b c)
theorem allS_snoc (far : Nat → Bool → Option Nat) (m : Int) (J : List ArcI) (pw : Nat → Bool) (a b c : Int) (l : List (Nat × Bool)) (x : Nat × Bool) : allS far m J pw a b c (l ++ [x]) = allS far m J pw a b c l ++ nextS far m J pw a b c x := by simp [allS]
theorem allS_len (far : Nat → Bool → Option Nat) (m : Int) (J : List ArcI) (pw : Nat → Bool) (a b c : Int) (l : List (Nat × Bool)) : (allS far m J pw a b c l).length ≤ l.length * (2 * J.length) := by
  induction l with
  | nil => simp [allS]
  | cons x l ih =>
    have := nextS_len far m J pw a b c x
    simp only [allS, List.flatMap_cons, List.length_append, List.length_cons] at ih ⊢
    rw [Nat.succ_mul]; omega
/-- What a step gives: the least vertex, and its spots, in new memory. -/
def StepPost (W : World) (best : Int) (l : List (Int × Bool)) (v : Value) (w' : World) : Prop :=
  ∃ b c, v = .tuple #[.int .i64 best, .slice (some ⟨b, 0, none⟩) l.length c] ∧ W.heap.size ≤ b ∧ l.length ≤ c ∧ Fr0 W w' ∧ SptArr w' b l
set_option maxHeartbeats 8000000 in
theorem Step_is {W : World} {q wg wa n g : Nat} {r pt : Option Addr} {J : List ArcI} {pw : Nat → Bool} {a b c m : Int} {far : Nat → Bool → Option Nat} (h : FinAsk W q r wg wa n pw a b c far)
    (hR : IsR W r (some ⟨g, 0, none⟩) pt) (hG : GP W (some ⟨g, 0, none⟩) n J) (hJ : J.length ≤ 100000) (hpw : ∀ u, pw u = true → u < n) (hn : n ≤ 1000) {A : Option Addr} {cap : Nat} {l : List (Nat × Bool)} (hl : SptsAt W A (l.map sptN)) (hlen : l.length ≤ 10) (hu : ∀ s ∈ l, s.1 < n)
    (hne : allS far m J pw a b c l ≠ []) :
    Calls Tryd.prog 31 #[.pointer (some ⟨q, 0, none⟩), .slice A l.length cap, .int .i64 m] W
      (Rets (StepPost W (minS n (allS far m J pw a b c l)) ((allS far m J pw a b c l).filter (fun x => x.1 == minS n (allS far m J pw a b c l))))) := by
  have H := Lib.hid h
  have HG := Lib.hid hG
  have HR := Lib.hid hR
  have HL := Lib.hid hl
  have HU := Lib.hid hu
  have HNE := Lib.hid hne
  have hlx : (l.map sptN).length = l.length := List.length_map _
  clear h hG hR hl hu hne
  go_enter Tryd.func31, Tryd.ntmps31
  go_wp2_with fail
  have HLX := Lib.hid hlx
  clear hlx
  go_loopw [8, 16] (fun v i wr => ∃ j : Nat, j ≤ l.length ∧ i = .int .i64 j ∧ Fr0 W wr ∧ wr.ownsRow W.heap.size 63 2 v (allS far m J pw a b c (l.take j)).length (sptCells (allS far m J pw a b c (l.take j)))) (fun _ i _ => l.length - (intOf i).toNat)
  case atStart => exact ⟨0, Nat.zero_le _, rfl, Fr.refl _ _, own_nil _ _ _ _⟩
  case round =>
    obtain ⟨j, hj, rfl, hf, ho⟩ := hrel
    by_cases hlt : j < l.length
    · have hlt' : (j : Int) < (l.length : Int) := by omega
      obtain ⟨sb, so, rfl, d0, d1⟩ := (HL.out.fr0 hf).at_ (j := j) (by have := HLX.out; omega)
      have hx : (l.map sptN).getD j (0, false) = sptN (l.getD j (0, false)) := by simp [List.getD_eq_getElem?_getD, List.getElem?_eq_getElem hlt]
      have htk : l.take (j + 1) = l.take j ++ [l.getD j (0, false)] := by rw [List.take_succ_eq_append_getElem hlt]; simp [List.getD_eq_getElem?_getD, List.getElem?_eq_getElem hlt]
      have hmem : l.getD j (0, false) ∈ l := by simp [List.getD_eq_getElem?_getD, List.getElem?_eq_getElem hlt]
      have hsn := allS_snoc far m J pw a b c (l.take j) (l.getD j (0, false))
      rw [← htk] at hsn
      rw [hx] at d0 d1
      generalize l.getD j (0, false) = s at d0 d1 hsn hmem
      simp only [sptN] at d0 d1
      have hus := HU.out s hmem
      have hln := allS_len far m J pw a b c (l.take j)
      have hln2 := nextS_len far m J pw a b c s
      have hfa : Fr0 W (wr.alloc (.cells #[.int .i64 (s.1 : Int), .bool s.2] 63)) := hf.alloc _
      have HNX := Lib.hid (NextA_is (H.out.fr0 hfa) (HR.out.fr0 hfa) (HG.out.fr0 hfa) hJ hpw hn (m := m) hus)
      have HSN := Lib.hid hsn
      have hlt10 : (l.take j).length ≤ 10 := by rw [List.length_take]; omega
      have hb1 : (allS far m J pw a b c (l.take j)).length ≤ 2000000 := by
        have : (l.take j).length * (2 * J.length) ≤ 10 * (2 * J.length) := Nat.mul_le_mul_right _ hlt10
        omega
      clear htk hx hsn hmem hlt10 hln
      go_wp2_with fail
      refine (HNX.out).mono ?_
      rintro e w3 ⟨_, rfl, hf3, ho3⟩
      have hF3 : Fr0 W w3 := hfa.trans0 hf3
      have ho1 := own_fr0 (ho.alloc (.cells #[.int .i64 (s.1 : Int), .bool s.2] 63)) hf3
      obtain ⟨A2, c2, rfl⟩ := own_form ho3
      have hp2 := plain_own ho3
      have hy2 := own_spts ho3 (by omega)
      have hsz := hF3.size
      clear ho ho3 HNX
      go_wp2_with (at_builtin; refine wpList_append_spts rfl _ _ rfl rfl rfl hp2 (by omega) (by omega) ho1 hy2 ?_; intro v4 w4 ho4 hf4)
      go_roundw
      case rel =>
        refine ⟨j + 1, by omega, by go_num, ?_, by rw [HSN.out]; exact ho4⟩
        exact Fr.trans hF3 hf4 (fun k hk e => own_old ho1 hk e)
      case measure => simp [intOf]; omega
    · have hje : j = l.length := by omega
      subst hje
      rw [List.take_length] at ho
      have hln : (allS far m J pw a b c l).length ≤ 2000000 := by
        have h1 := allS_len far m J pw a b c l
        have : l.length * (2 * J.length) ≤ 10 * (2 * J.length) := Nat.mul_le_mul_right _ hlen
        omega
      obtain ⟨all, hall⟩ : ∃ all, allS far m J pw a b c l = all := ⟨_, rfl⟩
      rw [hall] at ho hln HNE
      have HALL := Lib.hid hall
      clear hall
      clear HL HU HLX
      have HLN := Lib.hid (LenR_is (HR.out.fr0 hf) (HG.out.fr0 hf))
      obtain ⟨mb, ring, top, mm, hb, hmu, hwu⟩ := H.out.fr0 hf
      have c0 := hb.c0
      clear hb hmu hwu
      obtain ⟨A8, c8, rfl⟩ := own_form ho
      obtain ⟨b8, rfl⟩ : ∃ b8, A8 = some ⟨b8, 0, none⟩ := by
        rcases ho.2 with ⟨_, e⟩ | ⟨g, cap, cur, e, _⟩
        · exact absurd (List.eq_nil_of_length_eq_zero e) HNE.out
        · cases e; exact ⟨g, rfl⟩
      have hB8 : W.heap.size ≤ b8 := (own_blk ho rfl).1
      obtain ⟨hARR, hcap, _⟩ := own_arrS ho
      have hat := hARR.at_ (by omega)
      have HARR := Lib.hid hARR
      have HAT := Lib.hid hat
      clear ho hARR hat
      go_wp2_with (go_at_call 25; refine (HLN.out).mono ?_; rintro e w' ⟨rfl, rfl⟩)
      obtain ⟨w1, hw1⟩ : ∃ w1, w1 = wr.alloc (.cells #[.int .i64 (n : Int)] 3) := ⟨_, rfl⟩
      obtain ⟨bb, hbb⟩ : ∃ bb, bb = wr.heap.size := ⟨_, rfl⟩
      rw [← hw1, ← hbb]
      have hf1 : Fr0 wr w1 := by rw [hw1]; exact fr_alloc _ _ _
      have hb1 : Box w1 bb 3 (.int .i64 (n : Int)) := by rw [hw1, hbb]; exact Box.new _ _ _
      have hF1 : Fr0 W w1 := hf.trans0 hf1
      have HBB := Lib.hid hbb
      have hbw : W.heap.size ≤ bb := by rw [hbb]; exact hf.size
      have hb8 : b8 < wr.heap.size := by
        obtain ⟨tail, ht⟩ := HARR.out
        exact heap_lt ht
      have hne8 : b8 ≠ bb := by omega
      have HAT1 := Lib.hid (HAT.out.fr0 hf1)
      have HARR1 : Hid (SptArr w1 b8 all) := by
        obtain ⟨tail, ht⟩ := HARR.out
        exact Lib.hid ⟨tail, hf1.heap' ht⟩
      clear hw1 hbb HARR HAT HLN c0
      go_loopw [34] (fun i w2 => ∃ j : Nat, j ≤ all.length ∧ i = .int .i64 j ∧ Fr (fun k => k = bb) w1 w2 ∧ Box w2 bb 3 (.int .i64 (minS n (all.take j)))) (fun i _ => all.length - (intOf i).toNat)
      case atStart => exact ⟨0, Nat.zero_le _, rfl, Fr.refl _ _, hb1⟩
      case round =>
        obtain ⟨j, hj, rfl, hf2, hb2⟩ := hrel
        by_cases hlt : j < all.length
        · have hlt' : (j : Int) < (all.length : Int) := by omega
          obtain ⟨sb, so, es, d0, d1⟩ := (HAT1.out.fr hf2 (fun b o e _ => by cases e; exact hne8)).at_ (j := j) hlt
          cases es
          rw [Nat.zero_add] at d0 d1
          have htk := take_snoc_sp all j hlt
          have hms := minS_snoc (n : Int) (all.take j) (all.getD j (0, false))
          rw [← htk] at hms
          generalize all.getD j (0, false) = x at d0 d1 hms
          generalize minS (n : Int) (all.take j) = mn at hms hb2
          have HMS := Lib.hid hms
          have hbc := (hb2.fr0 (fr_alloc _ wr (.cells #[.int .i64 x.1, .bool x.2] 63))).cell
          have hbf := (hb2.fr0 (fr_alloc _ wr (.cells #[.int .i64 x.1, .bool x.2] 63))).frozen
          have HB2 := Lib.hid hb2
          have HF2 := Lib.hid hf2
          clear hms htk hb2 hf2
          by_cases hcm : x.1 < mn
          · go_wp2_with fail
            go_roundw
            case rel =>
              refine ⟨j + 1, by omega, by go_num, ?_, ?_⟩
              · exact (HF2.out.alloc _).trans (fr_setCell (S := fun k => k = bb) _ _ _ (fun _ => rfl)) (fun _ _ e => e)
              · rw [HMS.out, if_pos hcm]
                exact (HB2.out.fr0 (fr_alloc _ _ _)).set _
            case measure => simp [intOf]; omega
          · go_wp2_with fail
            go_roundw
            case rel =>
              refine ⟨j + 1, by omega, by go_num, ?_, ?_⟩
              · exact (HF2.out.alloc _).trans (fr_setCell (S := fun k => k = bb) _ _ _ (fun _ => rfl)) (fun _ _ e => e)
              · rw [HMS.out, if_neg hcm]
                exact (HB2.out.fr0 (fr_alloc _ _ _)).set _
            case measure => simp [intOf]; omega
        · have hje : j = all.length := by omega
          subst hje
          rw [List.take_length] at hb2
          obtain ⟨tail, ht⟩ := HARR1.out
          have ht2 := hf2.heap ht (fun e => hne8 e)
          obtain ⟨best, hbest⟩ : ∃ best, minS (n : Int) all = best := ⟨_, rfl⟩
          rw [hbest] at hb2
          have HBEST := Lib.hid hbest
          clear hbest
          have htl : (all.map toP).length = all.length := List.length_map _
          have HDEL := Lib.hid (fun w' (f : Fr0 wr w') => DeleteFunc_isP (Step1_is bb best) (enters_of Tryd.func47 (by kernel_rfl) rfl) (cap := c8) (f.heap ht2 (fun x => x)) (by omega) (by omega) (fun W1 W2 hk f2 => hk.fr f2 (fun e => hne8 e.symm)) (hb2.fr0 f))
          rw [htl] at HDEL
          have HKS := Lib.hid (show ∀ w', Fr (fun k => k = b8) wr w' → (Fr (fun k => k = b8) wr w' ∧ w'.cell? ⟨bb, 0, none⟩ = some (.int .i64 best)) from fun w' f => ⟨f, (hb2.fr f (fun e => hne8 e.symm)).cell⟩)
          have HB2 := Lib.hid hb2
          have HF2 := Lib.hid hf2
          clear hb2 hf2 ht ht2
          go_wp2_with fail
          go_region_held_law (fun w' => Fr (fun k => k = b8) wr w' ∧ w'.cell? ⟨bb, 0, none⟩ = some (.int .i64 best))
            ((refine HKS.out _ ?_; first | exact fr_drew _ _ | assumption | exact And.left (by assumption)))
            (first
              | (go_at_call 46; refine (HDEL.out _ (fr_drew _ _)).mono ?_; rintro e w9 ⟨_, rfl, rfl, hf9, tail9, ht9⟩; have hF9 : Fr (fun k => k = b8) wr w9 := ((fr_drew (fun k => k = b8) _).trans hf9 (fun _ _ e => e))))
          have hfl : (all.map toP).filter (fun a => !(a.f != best)) = (all.filter (fun x => x.1 == best)).map toP := by
            rw [filter_toP]
            congr 1
            apply List.filter_congr
            intro x _
            simp [toP, bne]
          rw [hfl] at ht9 ⊢
          rw [List.length_map]
          have HFL := Lib.hid hfl
          clear hfl
          have hlf : (all.filter (fun x => x.1 == best)).length ≤ all.length := List.length_filter_le _ _
          go_wp2_with fail
          go_ret2
          rw [HALL.out, HBEST.out]
          refine ⟨_, rfl, b8, c8, rfl, hB8, by omega, ?_, tail9, ht9⟩
          exact (Fr.trans hF1 HF2.out (fun j hj e => by omega)).trans hF9 (fun j hj e => by omega)
end Go.Proofs.YtdcjfpjpboafnaaDoor
