/- Maps as functions: at each key a value or none; keys that are numbers, and pairs of plain things. -/
import Derived.Test.YtdcjfpjpboafnaaDoorBase
import Derived.Maps.RangeWalk
import Derived.DeepKeys4
namespace Go.Proofs.YtdcjfpjpboafnaaDoor
set_option linter.all false
open Go.RowKit Go.Maps

/-- However a value looks, it reads as itself. -/
def anyElem (v : Value) : Option (DataW Value × List MemPlace) := some (.held v, [])

/-- A key type's values, told by an α. -/
structure KeyEnc {α : Type} (P : Program) (k : TypeId) (enc : α → Value) (lit : α → Lit) (ok : α → Prop) : Prop where
  keyed : Keyed P k
  key : ∀ x, ok x → keyOf P k (enc x) = some (lit x)
  inv : ∀ v l, keyOf P k v = some l → ∃ x, ok x ∧ v = enc x
  inj : ∀ x y, enc x = enc y → x = y
section
variable {α : Type} {P : Program} {k : TypeId} {enc : α → Value} {lit : α → Lit} {ok : α → Prop}
theorem KeyEnc.lit_inj (K : KeyEnc P k enc lit ok) {x y : α} (hx : ok x) (hy : ok y) (h : lit x = lit y) : x = y :=
  K.inj _ _ (K.keyed.inj (K.key x hx) (h ▸ K.key y hy))
theorem KeyEnc.isKey (K : KeyEnc P k enc lit ok) {x : α} (hx : ok x) : WideAt.IsKeyLit (lit x) := K.keyed.key (K.key x hx)
end

/-- What lies at a key. -/
def look (D : DataW Value) (l : Lit) : Option Value :=
  if has D l then (match D.atKey l .nil with | .held v => some v | _ => none) else none
theorem atKey_has {D : DataW Value} {l : Lit} (h : has D l = true) (z z' : DataW Value) : D.atKey l z = D.atKey l z' := by
  cases D <;> try (cases h; done)
  rename_i es
  obtain ⟨p, hp, hpk⟩ := List.any_eq_true.1 h
  have hs : (es.find? (fun p => p.1.sameKey l)).isSome = true := List.find?_isSome.2 ⟨p, hp, hpk⟩
  obtain ⟨x, hx⟩ := Option.isSome_iff_exists.1 hs
  simp [DataW.atKey, hx]
theorem look_none {D : DataW Value} {l : Lit} (h : has D l = false) : look D l = none := by simp [look, h]
theorem look_some {D : DataW Value} {l : Lit} {z v : Value} (h : has D l = true) (e : D.atKey l (.held z) = .held v) : look D l = some v := by
  rw [look, if_pos h, atKey_has h .nil (.held z), e]
theorem look_put_same {D : DataW Value} (hD : IsMap D) {l : Lit} (hl : WideAt.IsKeyLit l) (v : Value) : look (D.put l (.held v)) l = some v := by
  rw [look, if_pos (has_put_same hD hl _), atKey_put_same hD hl]
theorem look_put_other {D : DataW Value} {l l' : Lit} (h : l' ≠ l) (d : DataW Value) : look (D.put l d) l' = look D l' := by
  rw [look, look, has_put_other h, atKey_put_other h]
theorem look_del_same {D : DataW Value} {l : Lit} : look (D.del l) l = none := look_none has_del_same
theorem look_del_other {D : DataW Value} {l l' : Lit} (h : l' ≠ l) : look (D.del l) l' = look D l' := by
  rw [look, look, has_del_other h, atKey_del_other h]

/-- A function turned at one place. -/
def upd {α β : Type} [DecidableEq α] (m : α → β) (x : α) (y : β) : α → β := fun z => if z = x then y else m z

section
variable {α : Type} [DecidableEq α] {P : Program} {k : TypeId} {enc : α → Value} {lit : α → Lit} {ok : α → Prop}
/-- Block b is a map of at most n entries, in which m tells what lies where. -/
def MapIs (P : Program) (k : TypeId) (lit : α → Lit) (ok : α → Prop) (W : World) (b n : Nat) (m : α → Option Value) : Prop :=
  ∃ D : DataW Value, W.ownsMap P k anyElem b n D ∧ ∀ x, ok x → look D (lit x) = m x
/-- Block r goes through it: left tells what is still to come. -/
def MapGo (P : Program) (k : TypeId) (lit : α → Lit) (ok : α → Prop) (W : World) (b r n : Nat) (m : α → Option Value) (left : α → Bool) (cnt : Nat) : Prop :=
  ∃ (D : DataW Value) (lf : Lit → Bool), W.ranges P k anyElem b r n D lf cnt ∧ (∀ x, ok x → look D (lit x) = m x) ∧ ∀ x, ok x → left x = lf (lit x)
variable {W W' : World} {b r n cnt : Nat} {m : α → Option Value} {left : α → Bool}

theorem MapIs.lt (h : MapIs P k lit ok W b n m) : b < W.heap.size := by obtain ⟨D, h, _⟩ := h; exact h.lt
theorem MapIs.mono (h : MapIs P k lit ok W b n m) {n' : Nat} (hn : n ≤ n') : MapIs P k lit ok W b n' m := by obtain ⟨D, h, hm⟩ := h; exact ⟨D, h.mono hn, hm⟩
theorem MapIs.fr {S : Nat → Prop} (h : MapIs P k lit ok W b n m) (f : Fr S W W') (hs : ¬ S b) : MapIs P k lit ok W' b n m := by
  obtain ⟨D, ⟨es, clock, hb, rest⟩, hm⟩ := h
  exact ⟨D, ⟨es, clock, f.heap hb hs, rest⟩, hm⟩
theorem MapIs.fr0 (h : MapIs P k lit ok W b n m) (f : Fr0 W W') : MapIs P k lit ok W' b n m := h.fr f (fun x => x)
theorem MapIs.grow {B : Nat} (h : MapIs P k lit ok W b n m) (f : Grow B W W') : MapIs P k lit ok W' b n m := by
  obtain ⟨D, ⟨es, clock, hb, rest⟩, hm⟩ := h
  exact ⟨D, ⟨es, clock, f.data _ _ hb rfl, rest⟩, hm⟩
theorem MapIs.congr {m' : α → Option Value} (h : MapIs P k lit ok W b n m) (e : ∀ x, ok x → m x = m' x) : MapIs P k lit ok W b n m' := by
  obtain ⟨D, h, hm⟩ := h; exact ⟨D, h, fun x hx => (hm x hx).trans (e x hx)⟩
theorem MapIs.made (W : World) (P : Program) (k : TypeId) (lit : α → Lit) (ok : α → Prop) : MapIs P k lit ok (W.alloc (.map #[] 0)) W.heap.size 0 (fun _ => none) :=
  ⟨_, World.ownsMap_made W P k anyElem, fun x _ => rfl⟩
theorem MapIs.isMapObj (h : MapIs P k lit ok W b n m) : ∃ es clock, W.heap[b]? = some (.map es clock) := by
  obtain ⟨D, ⟨es, clock, hb, rest⟩, hm⟩ := h; exact ⟨es, clock, hb⟩
theorem MapIs.ne_cells (h : MapIs P k lit ok W b n m) {c : Nat} {cs : Array Value} {t : Nat} {f : Nat × Nat} (hc : W.heap[c]? = some (.cells cs t f)) : c ≠ b := by
  rintro rfl
  obtain ⟨es, clock, hb⟩ := h.isMapObj
  rw [hb] at hc; cases hc
theorem fr_mapTurned (h : W.mapTurned W' b) : Fr (fun k => k = b) W W' := by
  obtain ⟨es, clock, es', clock', hb, rfl⟩ := h
  refine ⟨rfl, rfl, rfl, by simp [ChangeMaps.setBlock], fun j hj hs => ChangeMaps.heap_setBlock_other hb _ hs, fun j o ho hd => ?_⟩
  by_cases e : j = b
  · subst e; rw [hb] at ho; cases ho; cases hd
  · exact (ChangeMaps.heap_setBlock_other hb _ e).trans ho

theorem MapIs.look_ok {t e : TypeId} (h : MapIs P k lit ok W b n m) (K : KeyEnc P k enc lit ok) (ht : P.underlying t = some (.map k e)) {z : Value} (hz : (zeroValue e).run P W = .ok z W) {x : α} (hx : ok x) :
    (Instr.lookup t (.map (some b)) (enc x) true).run P W = .ok (.tuple #[(m x).getD z, .bool (m x).isSome]) W := by
  obtain ⟨D, h, hm⟩ := h
  obtain ⟨v, ps, hrun, hv⟩ := h.look_ok K.keyed ht hz (zd := .held z) (zp := []) rfl (K.key x hx)
  rw [hrun, ← hm x hx]
  have hv' : DataW.held v = D.atKey (lit x) (.held z) := by simpa [anyElem] using congrArg (Option.map Prod.fst) hv
  cases hh : has D (lit x) with
  | false =>
    rw [look_none hh]
    rw [atKey_of_not_has hh] at hv'
    cases hv'
    rfl
  | true => rw [look_some hh hv'.symm]; rfl
theorem MapIs.look1 {t e : TypeId} (h : MapIs P k lit ok W b n m) (K : KeyEnc P k enc lit ok) (ht : P.underlying t = some (.map k e)) {z : Value} (hz : (zeroValue e).run P W = .ok z W) {x : α} (hx : ok x) :
    (Instr.lookup t (.map (some b)) (enc x) false).run P W = .ok ((m x).getD z) W := by
  obtain ⟨D, h, hm⟩ := h
  obtain ⟨v, ps, hrun, hv⟩ := h.lookup K.keyed ht hz (zd := .held z) (zp := []) rfl (K.key x hx)
  rw [hrun, ← hm x hx]
  have hv' : DataW.held v = D.atKey (lit x) (.held z) := by simpa [anyElem] using congrArg (Option.map Prod.fst) hv
  cases hh : has D (lit x) with
  | false =>
    rw [look_none hh]
    rw [atKey_of_not_has hh] at hv'
    cases hv'
    rfl
  | true => rw [look_some hh hv'.symm]; rfl
theorem MapIs.store {t e : TypeId} (h : MapIs P k lit ok W b n m) (K : KeyEnc P k enc lit ok) (ht : P.underlying t = some (.map k e)) (hn : n < maxLen) {x : α} (hx : ok x) (v : Value) :
    ∃ w', (Instr.mapUpdate t (.map (some b)) (enc x) v).run P W = .ok () w' ∧ MapIs P k lit ok w' b (n + 1) (upd m x (some v)) ∧ Fr (fun k => k = b) W w' := by
  obtain ⟨D, h, hm⟩ := h
  obtain ⟨w', hrun, hown, ht⟩ := h.store K.keyed ht hn (d := .held v) (ps := []) (val := v) (K.key x hx) rfl
  refine ⟨w', hrun, ⟨_, hown, fun y hy => ?_⟩, fr_mapTurned ht⟩
  unfold upd
  by_cases e : y = x
  · subst e
    rw [if_pos rfl]
    exact look_put_same (h.tidy K.keyed).isMap (K.isKey hx) v
  · rw [if_neg e, look_put_other (fun h => e (K.lit_inj hy hx h)), hm y hy]
theorem MapIs.drop {t e : TypeId} (h : MapIs P k lit ok W b n m) (K : KeyEnc P k enc lit ok) (ht : P.underlying t = some (.map k e)) {x : α} (hx : ok x) (ty : TypeId) :
    ∃ w', (Builtin.delete_ #[t, k] ty #[.map (some b), enc x]).run P W = .ok (.tuple #[]) w' ∧ MapIs P k lit ok w' b n (upd m x none) ∧ Fr (fun k => k = b) W w' := by
  obtain ⟨D, h, hm⟩ := h
  obtain ⟨w', hrun, hown, ht⟩ := h.drop K.keyed ht (K.key x hx) ty
  refine ⟨w', hrun, ⟨_, hown, fun y hy => ?_⟩, fr_mapTurned ht⟩
  unfold upd
  by_cases e : y = x
  · subst e
    rw [if_pos rfl]
    exact look_del_same
  · rw [if_neg e, look_del_other (fun h => e (K.lit_inj hy hx h)), hm y hy]

theorem MapGo.is (h : MapGo P k lit ok W b r n m left cnt) : MapIs P k lit ok W b n m := by obtain ⟨D, lf, h, hm, _⟩ := h; exact ⟨D, h.owns, hm⟩
theorem MapGo.left_eq (h : MapGo P k lit ok W b r n m left cnt) : W.rangeLeft b r = cnt := by obtain ⟨D, lf, h, _⟩ := h; exact h.left_eq
theorem MapGo.fr {S : Nat → Prop} (h : MapGo P k lit ok W b r n m left cnt) (f : Fr S W W') (hs : ¬ S b) : MapGo P k lit ok W' b r n m left cnt := by
  obtain ⟨D, lf, ⟨es, clock, since, seen, c0, hb, F, h1, hD, hr, rest⟩, hm⟩ := h
  exact ⟨D, lf, ⟨es, clock, since, seen, c0, f.heap hb hs, F, h1, hD, f.nd _ _ hr rfl, rest⟩, hm⟩
theorem MapGo.fr0 (h : MapGo P k lit ok W b r n m left cnt) (f : Fr0 W W') : MapGo P k lit ok W' b r n m left cnt := h.fr f (fun x => x)
theorem MapIs.range {t e : TypeId} (h : MapIs P k lit ok W b n m) (K : KeyEnc P k enc lit ok) (ht : P.underlying t = some (.map k e)) :
    ∃ w', (Instr.range t (.map (some b))).run P W = .ok (.pointer (some ⟨W.heap.size, 0, none⟩)) w' ∧ (∃ cnt, cnt ≤ n ∧ MapGo P k lit ok w' b W.heap.size n m (fun x => (m x).isSome) cnt) ∧ Fr0 W w' ∧ w'.heap.size = W.heap.size + 1 := by
  obtain ⟨D, h, hm⟩ := h
  have hel : ∀ l, has D l = true → (look D l).isSome = true := fun l hl => by
    obtain ⟨es, clock, hb, F, hs, rfl⟩ := h
    obtain ⟨p, hp, hpk⟩ := List.any_eq_true.1 hl
    have hsome : ((((es.toList.map (WideElems.rg P k anyElem)).foldr DataW.insert [])).find? (fun p => p.1.sameKey l)).isSome = true := List.find?_isSome.2 ⟨p, hp, hpk⟩
    obtain ⟨q, hq⟩ := Option.isSome_iff_exists.1 hsome
    have hqm := List.mem_of_find?_eq_some hq
    obtain ⟨x, hx, e⟩ := List.mem_map.1 (mem_sorted.1 hqm)
    obtain ⟨y, hy⟩ := F.reads x hx
    obtain ⟨z, hz, hzd⟩ := WideElems.rd_val hy
    have e2 : q.2 = .held x.val := by
      rw [← e, WideElems.rg_of hy, hzd]
      have : some (DataW.held x.val, ([] : List MemPlace)) = some z := hz
      cases this; rfl
    rw [look, if_pos hl]
    have : (DataW.map ((es.toList.map (WideElems.rg P k anyElem)).foldr DataW.insert [])).atKey l .nil = .held x.val := by
      simp only [DataW.atKey, hq]; exact e2
    rw [this]; rfl
  have hszl := h.size_le
  obtain ⟨w', hrun, hr, hg, hs⟩ := h.range K.keyed ht
  refine ⟨w', hrun, ⟨_, hszl, D, _, hr, hm, fun x hx => ?_⟩, ⟨hg.os, hg.tape, hg.output, hg.size, fun k hk _ => hg.block k hk (by simp), fun k o ho _ => (hg.block k (heap_lt ho) (by simp)).trans ho⟩, hs⟩
  show (m x).isSome = has D (lit x)
  rw [← hm x hx]
  cases hh : has D (lit x) with
  | false => rw [look_none hh]; rfl
  | true => exact hel _ hh
/-- The step: nothing is left; or an entry comes. -/
theorem MapGo.next (h : MapGo P k lit ok W b r n m left cnt) (K : KeyEnc P k enc lit ok) (ty : TypeId) :
    ((∀ x, ok x → left x = false) ∧ (Instr.next (.pointer (some ⟨r, 0, none⟩)) false ty).run P W = .ok (.tuple #[.bool false]) W) ∨
    ∃ x v w' cnt', ok x ∧ left x = true ∧ m x = some v ∧ (Instr.next (.pointer (some ⟨r, 0, none⟩)) false ty).run P W = .ok (.tuple #[.bool true, enc x, v]) w' ∧
      MapGo P k lit ok w' b r n m (upd left x false) cnt' ∧ cnt' < cnt ∧ W.grownBy w' (some r) ∧ w'.heap.size = W.heap.size ∧ (Instr.entry (.pointer (some ⟨r, 0, none⟩))).run P w' = .ok (.tuple #[enc x, v]) w' := by
  obtain ⟨D, lf, h, hm, hl⟩ := h
  rcases h.next K.keyed ty with ⟨h0, hlf, hrun⟩ | ⟨key, v, kl, y, w', cnt', hkey, hlk, hv, hat, hrun, hrg, hlt, hgr, hsz, hen⟩
  · exact .inl ⟨fun x hx => (hl x hx).trans (hlf _), hrun⟩
  · obtain ⟨x, hx, rfl⟩ := K.inv _ _ hkey
    have e : lit x = kl := by have := K.key x hx; rw [hkey] at this; exact (Option.some.inj this).symm
    subst e
    have hyv : y.1 = .held v := by
      have : some (DataW.held v, ([] : List MemPlace)) = some y := hv
      cases this; rfl
    have hh : has D (lit x) = true := has_true_of_atKey hat
    refine .inr ⟨x, v, w', cnt', hx, (hl x hx).trans hlk, ?_, hrun, ⟨D, _, hrg, hm, fun z hz => ?_⟩, hlt, hgr, hsz, hen⟩
    · rw [← hm x hx]; exact look_some (z := undef) hh ((hat _).trans hyv)
    · show upd left x false z = (lf (lit z) && !(lit z).sameKey (lit x))
      unfold upd
      by_cases e : z = x
      · subst e; rw [if_pos rfl, WideAt.sameKey_self (K.isKey hx)]; simp
      · rw [if_neg e, sameKey_ne (fun h => e (K.lit_inj hz hx h)), hl z hz]; simp
theorem MapGo.drop {t e : TypeId} (h : MapGo P k lit ok W b r n m left cnt) (K : KeyEnc P k enc lit ok) (ht : P.underlying t = some (.map k e)) {x : α} (hx : ok x) (ty : TypeId) :
    ∃ w' cnt', (Builtin.delete_ #[t, k] ty #[.map (some b), enc x]).run P W = .ok (.tuple #[]) w' ∧ MapGo P k lit ok w' b r n (upd m x none) (upd left x false) cnt' ∧ cnt' ≤ cnt ∧ Fr (fun k => k = b) W w' := by
  obtain ⟨D, lf, h, hm, hl⟩ := h
  obtain ⟨w', cnt', hrun, hrg, hle, htn⟩ := h.drop K.keyed ht (K.key x hx) ty
  refine ⟨w', cnt', hrun, ⟨_, _, hrg, fun y hy => ?_, fun z hz => ?_⟩, hle, fr_mapTurned htn⟩
  · unfold upd
    by_cases e : y = x
    · subst e; rw [if_pos rfl]; exact look_del_same
    · rw [if_neg e, look_del_other (fun h => e (K.lit_inj hy hx h)), hm y hy]
  · show upd left x false z = (lf (lit z) && !(lit z).sameKey (lit x))
    unfold upd
    by_cases e : z = x
    · subst e; rw [if_pos rfl, WideAt.sameKey_self (K.isKey hx)]; simp
    · rw [if_neg e, sameKey_ne (fun h => e (K.lit_inj hz hx h)), hl z hz]; simp
/-- A step of an iterator that is new since A. -/
theorem Fr0.iter {A w w' : World} {r : Nat} (h : Fr0 A w) (hr : A.heap.size ≤ r) (g : w.grownBy w' (some r)) : Fr0 A w' :=
  ⟨g.os.trans h.os, g.tape.trans h.tape, g.output.trans h.output, Nat.le_trans h.size g.size,
   fun j hj _ => (g.block j (Nat.lt_of_lt_of_le hj h.size) (fun e => by cases e; omega)).trans (h.same j hj (fun x => x)),
   fun j o ho _ => (g.block j (Nat.lt_of_lt_of_le (heap_lt ho) h.size) (fun e => by have := heap_lt ho; cases e; omega)).trans (h.heap' ho)⟩
theorem iter_cells {w w' : World} {r : Nat} (h : MapGo P k lit ok w b r n m left cnt) (g : w.grownBy w' (some r)) {c : Nat} {cs : Array Value} {t : Nat} {f : Nat × Nat} (hc : w.heap[c]? = some (.cells cs t f)) : w'.heap[c]? = some (.cells cs t f) := by
  obtain ⟨D, lf, ⟨es, clock, since, seen, c0, hb, F, h1, hD, hr, rest⟩, hm⟩ := h
  refine (g.block c (heap_lt hc) (fun e => ?_)).trans hc
  cases e
  rw [hr] at hc; cases hc
theorem grow_iter {w w' : World} {r B : Nat} (h : MapGo P k lit ok w b r n m left cnt) (g : w.grownBy w' (some r)) (hB : B ≤ r) : Grow B w w' :=
  ⟨g.os, g.tape, g.output, g.size, fun j hj hl => g.block j hl (fun e => by cases e; omega), fun j o ho hd => by
    refine (g.block j (heap_lt ho) (fun e => ?_)).trans ho
    cases e
    obtain ⟨D, lf, ⟨es, clock, since, seen, c0, hb, F, h1, hD, hr, rest⟩, hm⟩ := h
    rw [hr] at ho; cases ho; cases hd⟩
end

/-! ### at the operation -/
section
variable {α : Type} [DecidableEq α] {P : Program} {k : TypeId} {enc : α → Value} {lit : α → Lit} {ok : α → Prop} {b r n cnt : Nat} {m : α → Option Value} {left : α → Bool}
  {ops : Array Oper} {rest : List Oper} {o : Oper} {a : Act} {w : World} {Q : Exit → Act → World → Prop} {t e : TypeId}
theorem wpList_look_m (hg : o.guard = none) (mo x : Operand) (c : Bool) (hop : o.op = Op.lookup t mo x c) (K : KeyEnc P k enc lit ok) (ht : P.underlying t = some (.map k e)) {z : Value} (hz : ∀ w : World, (zeroValue e).run P w = .ok z w)
    (h : MapIs P k lit ok w b n m) (hm : a.eval mo = .map (some b)) {y : α} (hy : ok y) (hx : a.eval x = enc y)
    (hK : wpList P ops Q rest (a.put o.dst (if c then .tuple #[(m y).getD z, .bool (m y).isSome] else (m y).getD z)) w) : wpList P ops Q (o :: rest) a w := by
  refine wpList_plain hg fun K' hK' => ?_
  cases c with
  | false =>
    have := h.look1 K ht (hz w) hy
    unfold Oper.wp
    simp [execOp, hop, hm, hx, this, Result.andThen]
    exact hK' _ _ hK
  | true =>
    have := h.look_ok K ht (hz w) hy
    unfold Oper.wp
    simp [execOp, hop, hm, hx, this, Result.andThen]
    exact hK' _ _ hK
theorem wpList_store_m (hg : o.guard = none) (mo x v : Operand) (hop : o.op = Op.mapUpdate t mo x v) (K : KeyEnc P k enc lit ok) (ht : P.underlying t = some (.map k e))
    (h : MapIs P k lit ok w b n m) (hn : n < maxLen) (hm : a.eval mo = .map (some b)) {y : α} (hy : ok y) (hx : a.eval x = enc y) {val : Value} (hv : a.eval v = val)
    (hK : ∀ w', MapIs P k lit ok w' b (n + 1) (upd m y (some val)) → Fr (fun k => k = b) w w' → wpList P ops Q rest (a.put o.dst undef) w') : wpList P ops Q (o :: rest) a w := by
  refine wpList_plain hg fun K' hK' => ?_
  obtain ⟨w', hrun, r1, r2⟩ := h.store K ht hn hy val
  unfold Oper.wp
  simp [execOp, hop, hm, hx, hv, hrun, Result.andThen]
  exact hK' _ _ (hK w' r1 r2)
theorem wpList_drop_m (hg : o.guard = none) (mo x : Operand) (hop : o.op = Op.call { callee := Callee.builtin Builtin.delete, args := #[mo, x], argTypes := #[t, k] }) (K : KeyEnc P k enc lit ok) (ht : P.underlying t = some (.map k e))
    (h : MapIs P k lit ok w b n m) (hm : a.eval mo = .map (some b)) {y : α} (hy : ok y) (hx : a.eval x = enc y)
    (hK : ∀ w', MapIs P k lit ok w' b n (upd m y none) → Fr (fun k => k = b) w w' → wpList P ops Q rest (a.put o.dst (.tuple #[])) w') : wpList P ops Q (o :: rest) a w := by
  refine wpList_plain hg fun K' hK' => ?_
  obtain ⟨w', hrun, r1, r2⟩ := h.drop K ht hy o.type
  unfold Oper.wp
  simp [execOp, hop, resolve, invoke, builtin, hm, hx, hrun, Result.andThen]
  exact hK' _ _ (hK w' r1 r2)
theorem wpList_range_m (hg : o.guard = none) (mo : Operand) (hop : o.op = Op.range t mo) (K : KeyEnc P k enc lit ok) (ht : P.underlying t = some (.map k e))
    (h : MapIs P k lit ok w b n m) (hm : a.eval mo = .map (some b))
    (hK : ∀ w' cnt, cnt ≤ n → MapGo P k lit ok w' b w.heap.size n m (fun x => (m x).isSome) cnt → Fr0 w w' → w'.heap.size = w.heap.size + 1 → wpList P ops Q rest (a.put o.dst (.pointer (some ⟨w.heap.size, 0, none⟩))) w') :
    wpList P ops Q (o :: rest) a w := by
  refine wpList_plain hg fun K' hK' => ?_
  obtain ⟨w', hrun, ⟨cnt, hc, hgo⟩, hf, hs⟩ := h.range K ht
  unfold Oper.wp
  simp [execOp, hop, hm, hrun, Result.andThen]
  exact hK' _ _ (hK w' cnt hc hgo hf hs)
/-- The step, told by a test of the key. -/
theorem wpList_next_m (p : α → Value → Bool) (hg : o.guard = none) (it : Operand) (hop : o.op = Op.next it false) (K : KeyEnc P k enc lit ok)
    (h : MapGo P k lit ok w b r n m left cnt) (hit : a.eval it = .pointer (some ⟨r, 0, none⟩))
    (hDone : (∀ x, ok x → left x = false) → wpList P ops Q rest (a.put o.dst (.tuple #[.bool false])) w)
    (hYes : ∀ x v w' cnt', p x v = true → ok x → left x = true → m x = some v → MapGo P k lit ok w' b r n m (upd left x false) cnt' → cnt' < cnt → w.grownBy w' (some r) → w'.heap.size = w.heap.size →
      (Instr.entry (.pointer (some ⟨r, 0, none⟩))).run P w' = .ok (.tuple #[enc x, v]) w' → wpList P ops Q rest (a.put o.dst (.tuple #[.bool true, enc x, v])) w')
    (hNo : ∀ x v w' cnt', p x v = false → ok x → left x = true → m x = some v → MapGo P k lit ok w' b r n m (upd left x false) cnt' → cnt' < cnt → w.grownBy w' (some r) → w'.heap.size = w.heap.size →
      (Instr.entry (.pointer (some ⟨r, 0, none⟩))).run P w' = .ok (.tuple #[enc x, v]) w' → wpList P ops Q rest (a.put o.dst (.tuple #[.bool true, enc x, v])) w') :
    wpList P ops Q (o :: rest) a w := by
  refine wpList_plain hg fun K' hK' => ?_
  unfold Oper.wp
  rcases h.next K o.type with ⟨hl, hrun⟩ | ⟨x, v, w', cnt', hx, hlx, hmx, hrun, hgo, hlt, hgr, hsz, hen⟩
  · simp [execOp, hop, hit, hrun, Result.andThen]
    exact hK' _ _ (hDone hl)
  · simp [execOp, hop, hit, hrun, Result.andThen]
    cases hp : p x v with
    | true => exact hK' _ _ (hYes x v w' cnt' hp hx hlx hmx hgo hlt hgr hsz hen)
    | false => exact hK' _ _ (hNo x v w' cnt' hp hx hlx hmx hgo hlt hgr hsz hen)
/-- The step, of a map of whole numbers. -/
theorem wpList_next_mi (p : α → Value → Bool) (hg : o.guard = none) (it : Operand) (hop : o.op = Op.next it false) (K : KeyEnc P k enc lit ok)
    (h : MapGo P k lit ok w b r n m left cnt) (hV : ∀ x v, m x = some v → ∃ c : Int, v = .int .i64 c) (hit : a.eval it = .pointer (some ⟨r, 0, none⟩))
    (hDone : (∀ x, ok x → left x = false) → wpList P ops Q rest (a.put o.dst (.tuple #[.bool false])) w)
    (hYes : ∀ x (c : Int) w' cnt', p x (.int .i64 c) = true → ok x → left x = true → m x = some (.int .i64 c) → MapGo P k lit ok w' b r n m (upd left x false) cnt' → cnt' < cnt → w.grownBy w' (some r) → w'.heap.size = w.heap.size →
      (Instr.entry (.pointer (some ⟨r, 0, none⟩))).run P w' = .ok (.tuple #[enc x, .int .i64 c]) w' → wpList P ops Q rest (a.put o.dst (.tuple #[.bool true, enc x, .int .i64 c])) w')
    (hNo : ∀ x (c : Int) w' cnt', p x (.int .i64 c) = false → ok x → left x = true → m x = some (.int .i64 c) → MapGo P k lit ok w' b r n m (upd left x false) cnt' → cnt' < cnt → w.grownBy w' (some r) → w'.heap.size = w.heap.size →
      (Instr.entry (.pointer (some ⟨r, 0, none⟩))).run P w' = .ok (.tuple #[enc x, .int .i64 c]) w' → wpList P ops Q rest (a.put o.dst (.tuple #[.bool true, enc x, .int .i64 c])) w') :
    wpList P ops Q (o :: rest) a w := by
  refine wpList_next_m p hg it hop K h hit hDone (fun x v w' cnt' hp hq hl hm => ?_) (fun x v w' cnt' hp hq hl hm => ?_)
  · obtain ⟨c, rfl⟩ := hV x v hm
    exact hYes x c w' cnt' hp hq hl hm
  · obtain ⟨c, rfl⟩ := hV x v hm
    exact hNo x c w' cnt' hp hq hl hm
end
/-! ### keys -/
theorem intKey {P : Program} {k : TypeId} (hk : P.underlying k = some (.int .i64)) : KeyEnc P k (fun a : Int => .int .i64 a) (fun a => .int .i64 a) (fun a => (Lit.int .i64 a).wf = true) :=
  ⟨int_keyed hk, fun x hx => keyOf_int_mk hk hx, fun v l h => by obtain ⟨x, rfl, _, hw⟩ := Maps.keyOf_int_inv hk h; exact ⟨x, hw, rfl⟩, fun x y h => by cases h; rfl⟩
/-- A plain part of a key. -/
structure PartEnc {α : Type} (P : Program) (t : TypeId) (enc : α → Value) (lit : α → Lit) (ok : α → Prop) : Prop where
  put : ∀ d x, ok x → P.keyLits (d + 1) t [enc x] = some [lit x]
  inv : ∀ d v ls, P.keyLits (d + 1) t [v] = some ls → ∃ x, ok x ∧ v = enc x
  inj : ∀ x y, enc x = enc y → x = y
theorem intPart {P : Program} {t : TypeId} (h : P.underlying t = some (.int .i64)) : PartEnc P t (fun a : Int => .int .i64 a) (fun a => .int .i64 a) (fun a => (Lit.int .i64 a).wf = true) :=
  ⟨fun d x hx => by simp [Program.keyLits, h, hx], fun d v ls hl => by
    cases v <;> simp [Program.keyLits, h] at hl
    obtain ⟨⟨rfl, hw⟩, _⟩ := hl
    exact ⟨_, hw, rfl⟩, fun x y h => by cases h; rfl⟩
theorem boolPart {P : Program} {t : TypeId} (h : P.underlying t = some .bool) : PartEnc P t (fun a : Bool => .bool a) (fun a => .bool a) (fun _ => True) :=
  ⟨fun d x hx => by simp [Program.keyLits, h], fun d v ls hl => by
    cases v <;> simp [Program.keyLits, h] at hl
    exact ⟨_, trivial, rfl⟩, fun x y h => by cases h; rfl⟩
theorem pairKey {α β : Type} {P : Program} {k : TypeId} {f1 f2 : Field} (hk : P.underlying k = some (.struct #[f1, f2])) (hl : laidOutB P = true) (hrow : k < P.types.size) (hT : P.keyType k = true) (hm : P.types.size + 1 + 1 ≤ 10000)
    (hc : P.cellsOf k = 2) (c1 : P.cellsOf f1.type = 1) (c2 : P.cellsOf f2.type = 1) (o1 : f1.offset = 0) (o2 : f2.offset = 1) (n1 : (f1.name != "_") = true) (n2 : (f2.name != "_") = true) (hs : 1 ≤ P.types.size)
    {e1 : α → Value} {l1 : α → Lit} {k1 : α → Prop} {e2 : β → Value} {l2 : β → Lit} {k2 : β → Prop} (p1 : PartEnc P f1.type e1 l1 k1) (p2 : PartEnc P f2.type e2 l2 k2) :
    KeyEnc P k (fun x : α × β => .agg #[e1 x.1, e2 x.2]) (fun x => .string (keyBytes [l1 x.1, l2 x.2])) (fun x => k1 x.1 ∧ k2 x.2) := by
  obtain ⟨d, hd⟩ : ∃ d, P.types.size = d + 1 := ⟨P.types.size - 1, by omega⟩
  refine ⟨Keyed.of_law (deep_law_laid hl hm hrow hT (by rw [hk])), ?_, ?_, ?_⟩
  · rintro ⟨x, y⟩ ⟨hx, hy⟩
    have a1 := p1.put d x hx
    have a2 := p2.put d y hy
    have hk2 : P.keyLits (d + 1 + 1) k [e1 x, e2 y] = if [e1 x, e2 y].length = P.cellsOf k ∧ (#[f1, f2] : Array Field).all (·.name != "_") = true then ((#[f1, f2] : Array Field).toList.mapM fun f => P.keyLits (d + 1) f.type (([e1 x, e2 y].drop f.offset).take (P.cellsOf f.type))).map List.flatten else none := by
      conv => lhs; unfold Program.keyLits
      rw [hk]
    have hcond : [e1 x, e2 y].length = P.cellsOf k ∧ (#[f1, f2] : Array Field).all (·.name != "_") = true := ⟨by rw [hc]; rfl, by rw [Array.all_eq_true']; intro z hz; simp at hz; rcases hz with rfl | rfl <;> assumption⟩
    rw [if_pos hcond] at hk2
    simp only [List.mapM_cons, List.mapM_nil, o1, o2, c1, c2, List.drop_zero, List.drop_succ_cons, List.take_succ_cons, List.take_zero, a1, a2] at hk2
    simp [keyOf, hk, hT, Value.formed, hc, Value.cells, hd, hk2]
  · intro v l h
    simp only [keyOf, hk, hT, Bool.true_and] at h
    split at h
    · rename_i hf
      cases v <;> simp [Value.formed, hk, hc] at hf
      rename_i cs
      obtain ⟨u1, u2, rfl⟩ : ∃ u1 u2, cs = #[u1, u2] := by
        obtain ⟨l⟩ := cs
        match l, hf with
        | [a, b], _ => exact ⟨a, b, rfl⟩
      obtain ⟨ls, hls, _⟩ := Option.map_eq_some_iff.1 h
      rw [hd] at hls
      have hk2 : P.keyLits (d + 1 + 1) k [u1, u2] = if [u1, u2].length = P.cellsOf k ∧ (#[f1, f2] : Array Field).all (·.name != "_") = true then ((#[f1, f2] : Array Field).toList.mapM fun f => P.keyLits (d + 1) f.type (([u1, u2].drop f.offset).take (P.cellsOf f.type))).map List.flatten else none := by
        conv => lhs; unfold Program.keyLits
        rw [hk]
      have hls : P.keyLits (d + 1 + 1) k [u1, u2] = some ls := hls
      rw [hk2] at hls
      split at hls
      · obtain ⟨ll, hll, _⟩ := Option.map_eq_some_iff.1 hls
        simp only [List.mapM_cons, List.mapM_nil, o1, o2, c1, c2, List.drop_zero, List.drop_succ_cons, List.take_succ_cons, List.take_zero] at hll
        cases h1 : P.keyLits (d + 1) f1.type [u1] with
        | none => rw [h1] at hll; cases hll
        | some r1 =>
          cases h2 : P.keyLits (d + 1) f2.type [u2] with
          | none => rw [h1, h2] at hll; cases hll
          | some r2 =>
            obtain ⟨x, hx, rfl⟩ := p1.inv d _ _ h1
            obtain ⟨y, hy, rfl⟩ := p2.inv d _ _ h2
            exact ⟨(x, y), ⟨hx, hy⟩, rfl⟩
      · cases hls
    · cases h
  · rintro ⟨x, y⟩ ⟨x', y'⟩ h
    simp only [Value.agg.injEq] at h
    have h' := congrArg Array.toList h
    simp at h'
    rw [p1.inj _ _ h'.1, p2.inj _ _ h'.2]
end Go.Proofs.YtdcjfpjpboafnaaDoor
