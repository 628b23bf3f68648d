/- Rows of stamped values, and the library's functions on them: IndexFunc, ContainsFunc. -/
import Derived.Test.YtekigojbkhjdbaaTups
import Derived.WalkSpells
import Derived.WalkLawsBesides
namespace Go.Proofs.Ytekigojbkhjdbaa
set_option linter.all false
open Go.RowKit
set_option maxRecDepth 100000

structure ArcIS where
  f : Int
  t : Int
  deriving DecidableEq
instance : Inhabited ArcIS := ⟨⟨0, 0⟩⟩
def arcVS (a : ArcIS) : List Value := [.int .i64 a.f, .int .i64 a.t]
def arcAS (a : ArcIS) : Value := .agg #[.int .i64 a.f, .int .i64 a.t]
def arcCellsS (l : List ArcIS) : List Value := l.flatMap arcVS
theorem arcCells_lenS (l : List ArcIS) : (arcCellsS l).length = l.length * 2 := by
  induction l with
  | nil => rfl
  | cons a l ih => simp only [arcCellsS, List.flatMap_cons, List.length_append, List.length_cons] at ih ⊢; rw [ih]; simp [arcVS]; omega
theorem arcCells_getS (l : List ArcIS) (i : Nat) (h : i < l.length) (j : Nat) (hj : j < 2) : (arcCellsS l)[i * 2 + j]? = (arcVS l[i])[j]? := by
  induction l generalizing i with
  | nil => simp at h
  | cons a l ih =>
    cases i with
    | zero =>
      simp only [arcCellsS, List.flatMap_cons, Nat.zero_mul, Nat.zero_add, List.getElem_cons_zero]
      rw [List.getElem?_append_left (by simpa [arcVS] using hj)]
    | succ i =>
      simp only [List.length_cons] at h
      have := ih i (by omega)
      simp only [arcCellsS, List.flatMap_cons, List.getElem_cons_succ] at this ⊢
      rw [List.getElem?_append_right (by simp [arcVS]; omega), ← this]
      congr 1
      simp [arcVS]; omega

/-- The three cells of an arc. -/
def ArcAtS (W : World) (b o : Nat) (a : ArcIS) : Prop :=
  W.cell? ⟨b, o, none⟩ = some (.int .i64 a.f) ∧ W.cell? ⟨b, o + 1, none⟩ = some (.int .i64 a.t)
/-- A row of arcs, where a slice's value says. -/
def ArcsAtS (W : World) (A : Option Addr) (l : List ArcIS) : Prop :=
  l.length ≤ 17592186044416 ∧ (l = [] ∨ ∃ b o, A = some ⟨b, o, none⟩ ∧ ∀ j, j < l.length → ArcAtS W b (o + j * 2) (l.getD j default))
section
variable {W W' : World} {A : Option Addr} {l : List ArcIS}
theorem ArcAtS.fr {S : Nat → Prop} {b o : Nat} {a : ArcIS} (h : ArcAtS W b o a) (f : Fr S W W') (hs : ¬ S b) : ArcAtS W' b o a := ⟨f.cell h.1 hs, f.cell h.2 hs⟩
theorem ArcAtS.grow {B b o : Nat} {a : ArcIS} (h : ArcAtS W b o a) (f : Grow B W W') : ArcAtS W' b o a := ⟨f.cell h.1, f.cell h.2⟩
theorem ArcsAtS.grow {B : Nat} (h : ArcsAtS W A l) (f : Grow B W W') : ArcsAtS W' A l := by
  refine ⟨h.1, h.2.imp id ?_⟩
  rintro ⟨b, o, e, hc⟩
  exact ⟨b, o, e, fun j hj => (hc j hj).grow f⟩
theorem ArcsAtS.fr0 (h : ArcsAtS W A l) (f : Fr0 W W') : ArcsAtS W' A l := h.grow (Fr0.grow f 0)
end

/-- What a function value answers of an arc: it may lay blocks, no more. -/
def PredPostS (b : Bool) (W : World) (v : Value) (w' : World) : Prop := v = .bool b ∧ Fr0 W w'
def PredSpecS (f : Nat) (caps : Array Value) (p : ArcIS → Bool) (K : World → Prop) : Prop :=
  ∀ (a : ArcIS) (W : World), K W → Calls Try.prog f (#[.agg #[.int .i64 a.f, .int .i64 a.t]] ++ caps) W (Rets (PredPostS (p a) W))
def idxIS (p : ArcIS → Bool) (l : List ArcIS) : Int := match l.findIdx? p with | some i => (i : Int) | none => -1
theorem idxI_atS {p : ArcIS → Bool} {l : List ArcIS} {j : Nat} (hj : j < l.length) (h : p (l.getD j default) = true) (hn : ∀ i, i < j → p (l.getD i default) = false) : idxIS p l = (j : Int) := by
  have : l.findIdx? p = some j := by
    rw [List.findIdx?_eq_some_iff_getElem]
    refine ⟨hj, by simpa [List.getD_eq_getElem?_getD, List.getElem?_eq_getElem hj] using h, fun i hi => ?_⟩
    have := hn i hi
    simpa [List.getD_eq_getElem?_getD, List.getElem?_eq_getElem (show i < l.length by omega)] using this
  simp [idxIS, this]
theorem idxI_noneS {p : ArcIS → Bool} {l : List ArcIS} (hn : ∀ i, i < l.length → p (l.getD i default) = false) : idxIS p l = -1 := by
  have : l.findIdx? p = none := by
    rw [List.findIdx?_eq_none_iff]
    intro x hx
    obtain ⟨i, hi, rfl⟩ := List.mem_iff_getElem.1 hx
    have := hn i hi
    simpa [List.getD_eq_getElem?_getD, List.getElem?_eq_getElem hi] using this
  simp [idxIS, this]
theorem idxI_anyS {p : ArcIS → Bool} {l : List ArcIS} : (0 ≤ idxIS p l) = (l.any p = true) := by
  unfold idxIS
  cases h : l.findIdx? p with
  | none =>
    rw [List.findIdx?_eq_none_iff] at h
    have : l.any p = false := by rw [List.any_eq_false]; intro x hx; simp [h x hx]
    simp [this]
  | some i =>
    rw [List.findIdx?_eq_some_iff_getElem] at h
    obtain ⟨hi, hp, _⟩ := h
    have : l.any p = true := by rw [List.any_eq_true]; exact ⟨_, List.getElem_mem hi, hp⟩
    simp [this]
theorem idxI_negS {p : ArcIS → Bool} {l : List ArcIS} (h : idxIS p l = -1) : l.filter (fun a => !p a) = l := by
  have : l.any p = false := by
    cases hx : l.any p with
    | false => rfl
    | true => have := @idxI_anyS p l; rw [hx, h] at this; simp at this
  rw [List.any_eq_false] at this
  rw [List.filter_eq_self]
  intro a ha
  have := this a ha
  simpa using this
theorem idxI_posS {p : ArcIS → Bool} {l : List ArcIS} (h : idxIS p l ≠ -1) : ∃ i : Nat, idxIS p l = (i : Int) ∧ (i < l.length ∧ p (l.getD i default) = true) ∧ ∀ j, j < i → p (l.getD j default) = false := by
  unfold idxIS at h ⊢
  cases hx : l.findIdx? p with
  | none => rw [hx] at h; exact absurd rfl h
  | some i =>
    rw [List.findIdx?_eq_some_iff_getElem] at hx
    obtain ⟨hi, hp, hn⟩ := hx
    refine ⟨i, rfl, ⟨hi, by simpa [List.getD_eq_getElem?_getD, List.getElem?_eq_getElem hi] using hp⟩, fun j hj => ?_⟩
    have := hn j hj
    simpa [List.getD_eq_getElem?_getD, List.getElem?_eq_getElem (show j < l.length by omega)] using this
theorem take_snoc_aS (l : List ArcIS) (j : Nat) (h : j < l.length) : l.take (j + 1) = l.take j ++ [l.getD j default] := by
  rw [List.take_succ_eq_append_getElem h]; simp [List.getD_eq_getElem?_getD, List.getElem?_eq_getElem h]
theorem del_startS {p : ArcIS → Bool} {l : List ArcIS} {i : Nat} (hi : i < l.length) (hp : p (l.getD i default) = true) (hn : ∀ j, j < i → p (l.getD j default) = false) : l.take i = (l.take (i + 1)).filter (fun a => !p a) := by
  rw [take_snoc_aS l i hi, List.filter_append]
  have h1 : (l.take i).filter (fun a => !p a) = l.take i := by
    rw [List.filter_eq_self]
    intro a ha
    obtain ⟨j, hj, rfl⟩ := List.mem_iff_getElem.1 ha
    have := hn j (by simp at hj; omega)
    simp at hj
    simpa [List.getD_eq_getElem?_getD, List.getElem?_eq_getElem (show j < l.length by omega)] using this
  rw [h1]
  rw [List.getD_eq_getElem?_getD] at hp
  simp [hp]
theorem del_getS {l arr : List ArcIS} {j : Nat} (hl : arr.length = l.length) (hd : arr.drop j = l.drop j) (hj : j < l.length) : arr.getD j default = l.getD j default := by
  have := congrArg (fun l => l[0]?) hd
  simp only [List.getElem?_drop, Nat.add_zero] at this
  simp [List.getD_eq_getElem?_getD, this]
def IdxPostS (r : Int) (W : World) (v : Value) (w' : World) : Prop := v = .int .i64 r ∧ Fr0 W w'
set_option maxHeartbeats 1000000 in
theorem IndexFunc_isS {f : Nat} {caps : Array Value} {p : ArcIS → Bool} {K : World → Prop} (hp : PredSpecS f caps p K) (hK : ∀ W W', K W → Fr0 W W' → K W') (he : ∀ args w, (callFunc f args).run Try.prog w = .ok (.enter f args) w)
    {W : World} {A : Option Addr} {c : Nat} {l : List ArcIS} (hl : ArcsAtS W A l) (h0 : K W) :
    Calls Try.prog 89 #[.slice A l.length c, .func (.func f) #[] caps] W (Rets (IdxPostS (idxIS p l) W)) := by
  obtain ⟨hlen, hA⟩ := hl
  have HP := Lib.hid hp
  have HK := Lib.hid hK
  clear hp hK
  go_enter Try.func89, Try.ntmps89
  go_wp2
  go_loopw [8] (fun i wr => ∃ j : Nat, j ≤ l.length ∧ i = .int .i64 j ∧ Fr0 W wr ∧ K wr ∧ Hid (∀ i, i < j → p (l.getD i default) = false)) (fun i _ => l.length - (intOf i).toNat)
  case atStart => exact ⟨0, Nat.zero_le _, rfl, Fr.refl _ _, h0, Lib.hid (fun i hi => by omega)⟩
  case round =>
    obtain ⟨j, hj, rfl, hf, hk, HN⟩ := hrel
    by_cases hlt : j < l.length
    · rcases hA with hA | ⟨b, o, rfl, hc⟩
      · subst hA; simp at hlt
      · obtain ⟨c1, c2⟩ := (hc j hlt).fr hf (fun x => x)
        have hj' : (j : Int) < (l.length : Int) := by omega
        generalize hx : l.getD j default = x at c1 c2
        have HX := Lib.hid hx
        clear hx
        cases hpx : p x with
        | false =>
          have HPX := Lib.hid hpx
          clear hpx
          go_wp2
          refine (HP.out x _ hk).mono ?_
          rintro e w2 ⟨_, rfl, h1, h2⟩
          rw [HPX.out] at h1
          subst h1
          have hk2 := HK.out _ _ hk h2
          go_wp2
          go_roundw
          case rel => exact ⟨j + 1, by omega, by go_num, hf.trans0 h2, hk2, Lib.hid (fun i hi => by
            by_cases e : i = j
            · rw [e, HX.out]; exact HPX.out
            · exact HN.out i (by omega))⟩
          case measure => simp [intOf]; omega
        | true =>
          have HPX := Lib.hid hpx
          clear hpx
          go_wp2
          refine (HP.out x _ hk).mono ?_
          rintro e w2 ⟨_, rfl, h1, h2⟩
          rw [HPX.out] at h1
          subst h1
          go_wp2
          go_ret
          refine ⟨_, rfl, ?_, hf.trans0 h2⟩
          have : idxIS p l = (j : Int) := idxI_atS hlt (by rw [HX.out]; exact HPX.out) HN.out
          rw [this]; rfl
    · go_wp2
      go_ret
      refine ⟨_, rfl, ?_, hf⟩
      have : idxIS p l = -1 := idxI_noneS (fun i hi => HN.out i (by omega))
      rw [this]; rfl

/-! ### ContainsFunc -/
def AnyPostS (b : Bool) (W : World) (v : Value) (w' : World) : Prop := v = .bool b ∧ Fr0 W w'
theorem ContainsFunc_isS {f : Nat} {caps : Array Value} {p : ArcIS → Bool} {K : World → Prop} (hp : PredSpecS f caps p K) (hK : ∀ W W', K W → Fr0 W W' → K W') (he : ∀ args w, (callFunc f args).run Try.prog w = .ok (.enter f args) w)
    {W : World} {A : Option Addr} {c : Nat} {l : List ArcIS} (hl : ArcsAtS W A l) (h0 : K W) :
    Calls Try.prog 70 #[.slice A l.length c, .func (.func f) #[] caps] W (Rets (AnyPostS (l.any p) W)) := by
  have HC := Lib.hid (IndexFunc_isS (c := c) hp hK he hl h0)
  have hr : (0 ≤ idxIS p l) = (l.any p = true) := idxI_anyS
  generalize idxIS p l = r at HC hr
  clear hp hK
  have hb : decide (0 ≤ r) = l.any p := by
    cases hx : l.any p with
    | false => rw [hx] at hr; simp at hr; simp [hr]
    | true => rw [hx] at hr; simp at hr; simp [hr]
  have HB := Lib.hid hb
  clear hr hb
  go_enter Try.func70, Try.ntmps70
  go_wp2_with (go_at_call 89; refine HC.out.mono ?_; rintro e w2 ⟨_, rfl, rfl, h2⟩)
  go_ret
  exact ⟨_, rfl, by rw [← HB.out]; rfl, h2⟩

end Go.Proofs.Ytekigojbkhjdbaa
