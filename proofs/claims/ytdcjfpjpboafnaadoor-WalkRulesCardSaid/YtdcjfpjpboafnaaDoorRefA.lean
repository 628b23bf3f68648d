/- AppRow, SetPure, RefA, Of, in one text. -/
import Derived.Test.YtdcjfpjpboafnaaDoorInts
import Derived.Deep.AppendLies
namespace Go.Proofs.YtdcjfpjpboafnaaDoor
set_option linter.all false
open Go.RowKit
set_option maxRecDepth 100000

theorem run_append_ints {w : World} {B : Nat} {v : Value} {xs ys : List Int} (hown : w.ownsRow B 3 1 v xs.length (intsI xs)) {A : Option Addr} {c : Nat} (hy : IntsAt w A ys) (hp : Plain A ys.length c)
    (hb : (xs.length + ys.length) * 8 ≤ 140737488355328) (hB : B ≤ w.heap.size) (ty : Nat) :
    ∃ v' w', (Builtin.append_ #[33, 33] ty #[v, .slice A ys.length c]).run Tryd.prog w = .ok v' w' ∧ w'.ownsRow B 3 1 v' (xs ++ ys).length (intsI (xs ++ ys)) ∧ w.grownBy w' v.ownBlock := by
  obtain ⟨i0, hi, hz0, hz1, hz2⟩ := info_parts info_int
  have e : intsI xs ++ intsI ys = intsI (xs ++ ys) := by simp [intsI]
  have el : xs.length + ys.length = (xs ++ ys).length := by simp
  cases A with
  | none =>
    obtain ⟨h1, h2⟩ := hp rfl
    have := List.eq_nil_of_length_eq_zero h1
    subst this
    subst h2
    refine ⟨v, w, run_append_owned_none w B 33 ty 3 i0 1 Tryd.underlying33 hi v xs.length (intsI xs) hown, by simpa using hown, ⟨rfl, rfl, rfl, Nat.le_refl _, fun _ _ _ => rfl⟩⟩
  | some ad =>
    have hnews : ∀ j u, (intsI ys)[j]? = some u → w.cell? (ad.add j) = some u := by
      rcases hy.2 with e | ⟨b, o, e, _⟩
      · subst e; intro j u hu; simp [intsI] at hu
      · cases e; exact ints_news hy
    obtain ⟨v', w', hr, h2, h3, _⟩ := run_append_own (P := Tryd.prog) (w := w) B 33 ty 3 i0 (.int .i64 0) 1 8 Tryd.underlying33 hi hz0 hz1 hz2 rfl (by decide) v xs.length (intsI xs) hown ad ys.length c (intsI ys) (by simp [intsI]) hnews (intsI_one ys) (by unfold maxLen; omega) hb hB
    exact ⟨v', w', hr, by rw [e, el] at h2; exact h2, h3⟩
/-- Onto an empty literal: nothing that was there is turned. -/
theorem run_append_lit {w : World} {N : Nat} (hN : w.heap[N]? = some (.cells #[] 3 (0, 0))) {ys : List Int} {A : Option Addr} {c : Nat} (hy : IntsAt w A ys) (hp : Plain A ys.length c)
    (hb : ys.length * 8 ≤ 140737488355328) (ty : Nat) {B : Nat} (hB : B ≤ N) :
    ∃ v' w', (Builtin.append_ #[33, 33] ty #[.slice (some ⟨N, 0, none⟩) 0 0, .slice A ys.length c]).run Tryd.prog w = .ok v' w' ∧ w'.ownsRow B 3 1 v' ys.length (intsI ys) ∧ Fr0 w w' := by
  obtain ⟨i0, hi, hz0, hz1, hz2⟩ := info_parts info_int
  have hown : w.ownsRow B 3 1 (.slice (some ⟨N, 0, none⟩) 0 0) 0 (intsI []) := ⟨rfl, .inr ⟨N, 0, #[], rfl, hB, hN, Nat.le_refl _, by unfold maxLen; omega, rfl, rfl⟩⟩
  have hNlt := heap_lt hN
  by_cases h0 : ys = []
  · subst h0
    cases A with
    | none =>
      obtain ⟨_, h2⟩ := hp rfl
      subst h2
      exact ⟨_, w, run_append_owned_none w B 33 ty 3 i0 1 Tryd.underlying33 hi _ 0 (intsI []) hown, hown, Fr.refl _ _⟩
    | some ad =>
      refine ⟨.slice (some ⟨N, 0, none⟩) 0 0, w, ?_, hown, Fr.refl _ _⟩
      simp [Builtin.append_, run_underlying Tryd.underlying33, sizeOf, typeInfo, hi, Builtin.lenOf, Builtin.firstCells, loadCells, loadCellsFrom, storeCells]
  · have hl : 0 < ys.length := Nat.pos_of_ne_zero (fun e => h0 (List.length_eq_zero_iff.1 e))
    obtain ⟨b, o, rfl⟩ : ∃ b o, A = some ⟨b, o, none⟩ := by
      rcases hy.2 with e | ⟨b, o, e, _⟩
      · exact absurd e h0
      · exact ⟨b, o, e⟩
    have hr := run_append_grow (P := Tryd.prog) w 33 ty 3 i0 (.int .i64 0) Tryd.underlying33 hi hz0 ⟨N, 0, none⟩ 0 0 [] (by simp) (fun j u hu => by simp at hu) ⟨b, o, none⟩ ys.length c (intsI ys) (by simp [intsI, hz1]) (ints_news hy) (by omega) (by omega) (growslice_fits (by omega) (by rw [hz2]; omega))
    have := run_append_ints (xs := []) hown hy hp (by simpa using hb) (by omega) ty
    obtain ⟨v', w', hr2, h2, _⟩ := this
    have hr' := hr
    rw [hr2] at hr'
    injection hr' with e1 e2
    refine ⟨v', w', hr2, by simpa using h2, ?_⟩
    rw [e2]
    exact (fr_drew _ _).alloc _

section
variable {ops : Array Oper} {o : Oper} {a : Act} {w : World} {K : Act → World → Prop} {Q : Exit → Act → World → Prop} {E : Prop}
/-- At a step of a region that draws its order: append, by what its run comes to. -/
theorem step_append_run (hgd : o.guard = none) (s x : Operand) (t : TypeId) (ho : o.op = .call { callee := .builtin .append, args := #[s, x], argTypes := #[t, t] })
    {v xv v' : Value} {w' : World} (hs : a.eval s = v) (hx : a.eval x = xv) (hr : (Builtin.append_ #[t, t] o.type #[v, xv]).run Tryd.prog w = .ok v' w') (h : K (a.put o.dst v') w') :
    if Region.wanted o (yielded ops a.tmps) = true then Oper.wp Tryd.prog o a w K Q else E := by
  have hw : Region.wanted o (yielded ops a.tmps) = true := by simp [Region.wanted, hgd]
  rw [if_pos hw]
  unfold Oper.wp execOp
  simp only [ho, resolve, invoke, builtin, Sem.run_bind, Sem.run_pure, Result.andThen_ok, List.map_toArray, List.map_cons, List.map_nil, hs, hx, hr]
  exact h
theorem step_append_lit (hgd : o.guard = none) (s x : Operand) (ho : o.op = .call { callee := .builtin .append, args := #[s, x], argTypes := #[33, 33] })
    {N B c : Nat} {A : Option Addr} {ys : List Int} (hs : a.eval s = .slice (some ⟨N, 0, none⟩) 0 0) (hx : a.eval x = .slice A ys.length c) (hp : Plain A ys.length c) (hb : ys.length * 8 ≤ 140737488355328)
    (hN : w.heap[N]? = some (.cells #[] 3 (0, 0))) (hB : B ≤ N) (hy : IntsAt w A ys)
    (h : ∀ v' w', w'.ownsRow B 3 1 v' ys.length (intsI ys) → Fr0 w w' → K (a.put o.dst v') w') :
    if Region.wanted o (yielded ops a.tmps) = true then Oper.wp Tryd.prog o a w K Q else E := by
  obtain ⟨v', w', hr, h1, h2⟩ := run_append_lit hN hy hp hb o.type hB
  exact step_append_run hgd s x _ ho hs hx hr (h v' w' h1 h2)
theorem step_append_ints (hgd : o.guard = none) (s x : Operand) (ho : o.op = .call { callee := .builtin .append, args := #[s, x], argTypes := #[33, 33] })
    {B c : Nat} {A : Option Addr} {v : Value} {xs ys : List Int} (hs : a.eval s = v) (hx : a.eval x = .slice A ys.length c) (hp : Plain A ys.length c) (hb : (xs.length + ys.length) * 8 ≤ 140737488355328)
    (hB : B ≤ w.heap.size) (hown : w.ownsRow B 3 1 v xs.length (intsI xs)) (hy : IntsAt w A ys)
    (h : ∀ v' w', w'.ownsRow B 3 1 v' (xs ++ ys).length (intsI (xs ++ ys)) → Fr (fun k => v.ownBlock = some k) w w' → K (a.put o.dst v') w') :
    if Region.wanted o (yielded ops a.tmps) = true then Oper.wp Tryd.prog o a w K Q else E := by
  obtain ⟨v', w', hr, h1, h2⟩ := run_append_ints hown hy hp hb hB o.type
  exact step_append_run hgd s x _ ho hs hx hr (h v' w' h1 (append_fr0 hown h2))
end
section
variable {ops : Array Oper} {rest : List Oper} {o : Oper} {a : Act} {w : World} {Q : Exit → Act → World → Prop}
/-- At a list of operations: the same two. -/
theorem wpList_append_run (hgd : o.guard = none) (s x : Operand) (t : TypeId) (ho : o.op = .call { callee := .builtin .append, args := #[s, x], argTypes := #[t, t] })
    {v xv v' : Value} {w' : World} (hs : a.eval s = v) (hx : a.eval x = xv) (hr : (Builtin.append_ #[t, t] o.type #[v, xv]).run Tryd.prog w = .ok v' w') (h : wpList Tryd.prog ops Q rest (a.put o.dst v') w') :
    wpList Tryd.prog ops Q (o :: rest) a w := by
  refine wpList_plain hgd fun _ hK => ?_
  unfold Oper.wp execOp
  simp only [ho, resolve, invoke, builtin, Sem.run_bind, Sem.run_pure, Result.andThen_ok, List.map_toArray, List.map_cons, List.map_nil, hs, hx, hr]
  exact hK _ _ h
theorem wpList_append_lit (hgd : o.guard = none) (s x : Operand) (ho : o.op = .call { callee := .builtin .append, args := #[s, x], argTypes := #[33, 33] })
    {N B c : Nat} {A : Option Addr} {ys : List Int} (hs : a.eval s = .slice (some ⟨N, 0, none⟩) 0 0) (hx : a.eval x = .slice A ys.length c) (hp : Plain A ys.length c) (hb : ys.length * 8 ≤ 140737488355328)
    (hN : w.heap[N]? = some (.cells #[] 3 (0, 0))) (hB : B ≤ N) (hy : IntsAt w A ys)
    (h : ∀ v' w', w'.ownsRow B 3 1 v' ys.length (intsI ys) → Fr0 w w' → wpList Tryd.prog ops Q rest (a.put o.dst v') w') :
    wpList Tryd.prog ops Q (o :: rest) a w := by
  obtain ⟨v', w', hr, h1, h2⟩ := run_append_lit hN hy hp hb o.type hB
  exact wpList_append_run hgd s x _ ho hs hx hr (h v' w' h1 h2)
theorem wpList_append_ints (hgd : o.guard = none) (s x : Operand) (ho : o.op = .call { callee := .builtin .append, args := #[s, x], argTypes := #[33, 33] })
    {B c : Nat} {A : Option Addr} {v : Value} {xs ys : List Int} (hs : a.eval s = v) (hx : a.eval x = .slice A ys.length c) (hp : Plain A ys.length c) (hb : (xs.length + ys.length) * 8 ≤ 140737488355328)
    (hB : B ≤ w.heap.size) (hown : w.ownsRow B 3 1 v xs.length (intsI xs)) (hy : IntsAt w A ys)
    (h : ∀ v' w', w'.ownsRow B 3 1 v' (xs ++ ys).length (intsI (xs ++ ys)) → Fr (fun k => v.ownBlock = some k) w w' → wpList Tryd.prog ops Q rest (a.put o.dst v') w') :
    wpList Tryd.prog ops Q (o :: rest) a w := by
  obtain ⟨v', w', hr, h1, h2⟩ := run_append_ints hown hy hp hb hB o.type
  exact wpList_append_run hgd s x _ ho hs hx hr (h v' w' h1 (append_fr0 hown h2))
end
end Go.Proofs.YtdcjfpjpboafnaaDoor
namespace Go.Proofs.YtdcjfpjpboafnaaDoor
set_option linter.all false
open Go.RowKit

/-- A number put into a rising row. -/
def insI (x : Int) : List Int → List Int
  | [] => [x]
  | y :: ys => if x < y then x :: y :: ys else if x = y then y :: ys else y :: insI x ys
/-- The set of a row, rising. -/
def ofI (l : List Int) : List Int := l.foldr insI []
theorem mem_insI {x y : Int} : ∀ {l : List Int}, y ∈ insI x l ↔ y = x ∨ y ∈ l
  | [] => by simp [insI]
  | z :: zs => by
    simp only [insI]
    split
    · simp
    · split
      · rename_i e; subst e; simp
      · simp only [List.mem_cons, mem_insI (l := zs)]
        constructor
        · rintro (h | h | h)
          · exact .inr (.inl h)
          · exact .inl h
          · exact .inr (.inr h)
        · rintro (h | h | h)
          · exact .inr (.inl h)
          · exact .inl h
          · exact .inr (.inr h)
theorem rise_insI {x : Int} : ∀ {l : List Int}, l.Pairwise (· < ·) → (insI x l).Pairwise (· < ·)
  | [], _ => by simp [insI]
  | z :: zs, h => by
    obtain ⟨h1, h2⟩ := List.pairwise_cons.1 h
    simp only [insI]
    split
    · rename_i hlt
      refine List.pairwise_cons.2 ⟨fun y hy => ?_, h⟩
      rcases List.mem_cons.1 hy with rfl | hy
      · exact hlt
      · exact Int.lt_trans hlt (h1 y hy)
    · split
      · exact h
      · refine List.pairwise_cons.2 ⟨fun y hy => ?_, rise_insI h2⟩
        rcases mem_insI.1 hy with rfl | hy
        · omega
        · exact h1 y hy
theorem len_insI (x : Int) : ∀ l : List Int, (insI x l).length ≤ l.length + 1
  | [] => by simp [insI]
  | z :: zs => by
    simp only [insI]
    split
    · simp
    · split
      · simp
      · have := len_insI x zs; simp; omega
theorem mem_ofI {y : Int} {l : List Int} : y ∈ ofI l ↔ y ∈ l := by
  induction l with
  | nil => simp [ofI]
  | cons x xs ih => simp only [ofI, List.foldr_cons] at ih ⊢; rw [mem_insI, ih, List.mem_cons]
theorem rise_ofI (l : List Int) : (ofI l).Pairwise (· < ·) := by
  induction l with
  | nil => simp [ofI]
  | cons x xs ih => simp only [ofI, List.foldr_cons] at ih ⊢; exact rise_insI ih
theorem len_ofI (l : List Int) : (ofI l).length ≤ l.length := by
  induction l with
  | nil => simp [ofI]
  | cons x xs ih => simp only [ofI, List.foldr_cons, List.length_cons] at ih ⊢; have := len_insI x (List.foldr insI [] xs); omega
/-- Rising rows with the same numbers are one. -/
theorem rise_ext {α : Type} {r : α → α → Prop} (hirr : ∀ a, ¬ r a a) (htr : ∀ a b c, r a b → r b c → r a c) : ∀ {a b : List α}, a.Pairwise r → b.Pairwise r → (∀ x, x ∈ a ↔ x ∈ b) → a = b
  | [], [], _, _, _ => rfl
  | [], y :: ys, _, _, h => by have := (h y).2 (List.mem_cons_self ..); cases this
  | x :: xs, [], _, _, h => by have := (h x).1 (List.mem_cons_self ..); cases this
  | x :: xs, y :: ys, ha, hb, h => by
    obtain ⟨a1, a2⟩ := List.pairwise_cons.1 ha
    obtain ⟨b1, b2⟩ := List.pairwise_cons.1 hb
    have e : x = y := by
      rcases List.mem_cons.1 ((h x).1 (List.mem_cons_self ..)) with e | hx
      · exact e
      · rcases List.mem_cons.1 ((h y).2 (List.mem_cons_self ..)) with e | hy
        · exact e.symm
        · exact absurd (htr _ _ _ (a1 y hy) (b1 x hx)) (hirr x)
    subst e
    congr 1
    refine rise_ext hirr htr a2 b2 (fun z => ⟨fun hz => ?_, fun hz => ?_⟩)
    · rcases List.mem_cons.1 ((h z).1 (List.mem_cons_of_mem _ hz)) with e | h'
      · exact absurd (e ▸ a1 z hz) (hirr x)
      · exact h'
    · rcases List.mem_cons.1 ((h z).2 (List.mem_cons_of_mem _ hz)) with e | h'
      · exact absurd (e ▸ b1 z hz) (hirr x)
      · exact h'
theorem rise_extI {a b : List Int} (ha : a.Pairwise (· < ·)) (hb : b.Pairwise (· < ·)) (h : ∀ x, x ∈ a ↔ x ∈ b) : a = b := rise_ext (fun a => Int.lt_irrefl a) (fun _ _ _ => Int.lt_trans) ha hb h
theorem rise_extN {a b : List Nat} (ha : a.Pairwise (· < ·)) (hb : b.Pairwise (· < ·)) (h : ∀ x, x ∈ a ↔ x ∈ b) : a = b := rise_ext (fun a => Nat.lt_irrefl a) (fun _ _ _ => Nat.lt_trans) ha hb h
theorem ofI_of_rise {l : List Int} (h : l.Pairwise (· < ·)) : ofI l = l := rise_extI (rise_ofI l) h (fun _ => mem_ofI)
theorem ofI_congr {a b : List Int} (h : ∀ x, x ∈ a ↔ x ∈ b) : ofI a = ofI b := rise_extI (rise_ofI a) (rise_ofI b) (fun x => by rw [mem_ofI, mem_ofI, h])

/-- The least one of a row that is not in another one. -/
def MinOf (l out : List Int) (found : Bool) (best : Int) : Prop :=
  (found = true → best ∈ l ∧ best ∉ out) ∧ ∀ x ∈ l, x ∉ out → found = true ∧ best ≤ x
theorem MinOf.nil (out : List Int) (b : Int) : MinOf [] out false b := ⟨fun h => (by cases h), fun x h => (by cases h)⟩
theorem MinOf.skip {l out : List Int} {f : Bool} {b x : Int} (h : MinOf l out f b) (hx : x ∈ out ∨ (f = true ∧ b ≤ x)) : MinOf (l ++ [x]) out f b :=
  ⟨fun hf => ⟨List.mem_append_left _ (h.1 hf).1, (h.1 hf).2⟩, fun y hy hn => by
    rcases List.mem_append.1 hy with hy | hy
    · exact h.2 y hy hn
    · rw [List.mem_singleton.1 hy] at hn ⊢
      rcases hx with hx | hx
      · exact absurd hx hn
      · exact hx⟩
theorem MinOf.take {l out : List Int} {f : Bool} {b x : Int} (h : MinOf l out f b) (hx : x ∉ out) (hlt : f = true → x < b) : MinOf (l ++ [x]) out true x :=
  ⟨fun _ => ⟨List.mem_append_right _ (List.mem_singleton.2 rfl), hx⟩, fun y hy hn => by
    refine ⟨rfl, ?_⟩
    rcases List.mem_append.1 hy with hy | hy
    · obtain ⟨h1, h2⟩ := h.2 y hy hn
      have := hlt h1
      omega
    · rw [List.mem_singleton.1 hy]; exact Int.le_refl _⟩
theorem rise_take_drop {S : List Int} (hS : S.Pairwise (· < ·)) {n : Nat} (hn : n < S.length) : (S.getD n 0 ∈ S ∧ S.getD n 0 ∉ S.take n) ∧ ∀ x ∈ S, x ∉ S.take n → S.getD n 0 ≤ x := by
  have hg : S.getD n 0 = S[n] := by rw [List.getD_eq_getElem?_getD, List.getElem?_eq_getElem hn]; rfl
  have hp := List.pairwise_iff_getElem.1 hS
  refine ⟨⟨by rw [hg]; exact List.getElem_mem _, fun h => ?_⟩, fun x hx hno => ?_⟩
  · obtain ⟨i, hi, e⟩ := List.mem_iff_getElem.1 h
    rw [List.length_take] at hi
    rw [List.getElem_take, hg] at e
    have := hp i n (by omega) hn (by omega)
    omega
  · obtain ⟨i, hi, e⟩ := List.mem_iff_getElem.1 hx
    by_cases h : i < n
    · exact absurd (List.mem_iff_getElem.2 ⟨i, by rw [List.length_take]; omega, by rw [List.getElem_take]; exact e⟩) hno
    · by_cases h2 : i = n
      · subst h2; rw [hg, e]; exact Int.le_refl _
      · have := hp n i hn hi (by omega)
        rw [hg, ← e]; omega
theorem MinOf.done {l : List Int} {n : Nat} {f : Bool} {b : Int} (h : MinOf l ((ofI l).take n) f b) : (f = true → n < (ofI l).length ∧ b = (ofI l).getD n 0) ∧ (f = false → (ofI l).take n = ofI l) := by
  constructor
  · intro hf
    obtain ⟨h1, h2⟩ := h.1 hf
    have hn : n < (ofI l).length := by
      rcases Nat.lt_or_ge n (ofI l).length with h' | h'
      · exact h'
      · rw [List.take_of_length_le h'] at h2
        exact absurd (mem_ofI.2 h1) h2
    refine ⟨hn, ?_⟩
    obtain ⟨⟨g1, g2⟩, g3⟩ := rise_take_drop (rise_ofI l) hn
    have a1 := (h.2 _ (mem_ofI.1 g1) g2).2
    have a2 := g3 b (mem_ofI.2 h1) h2
    omega
  · intro hf
    rcases Nat.lt_or_ge n (ofI l).length with h' | h'
    · obtain ⟨⟨g1, g2⟩, _⟩ := rise_take_drop (rise_ofI l) h'
      have := (h.2 _ (mem_ofI.1 g1) g2).1
      rw [hf] at this; cases this
    · exact List.take_of_length_le h'
end Go.Proofs.YtdcjfpjpboafnaaDoor
namespace Go.Proofs.YtdcjfpjpboafnaaDoor
set_option linter.all false
open Go.RowKit
set_option maxRecDepth 100000

/-- Is a number in a row, by the document. -/
theorem Has5_is {W : World} {A : Option Addr} {c : Nat} {xs : List Int} (h : IntsAt W A xs) (x : Int) :
    Calls Tryd.prog 20 #[.slice A xs.length c, .int .i64 x] W fun e w' => e = .returned (.bool (decide (x ∈ xs))) ∧ W = w' := by
  have hlen := h.1
  go_enter Tryd.func20, Tryd.ntmps20
  go_wp2_with fail
  go_loopw [5] (fun v wr => ∃ k : Nat, k ≤ xs.length ∧ v = .int .i64 k ∧ Hid (x ∉ xs.take k) ∧ wr = W) (fun v _ => xs.length - (intOf v).toNat)
  case atStart => exact ⟨0, by omega, rfl, Lib.hid (by simp), rfl⟩
  case round =>
    obtain ⟨k, hk, rfl, HN, rfl⟩ := hrel
    by_cases hlt : k < xs.length
    · obtain ⟨b, o, rfl, hc⟩ := h.at_ hlt
      have htk : xs.take (k + 1) = xs.take k ++ [xs.getD k 0] := by
        rw [List.take_add_one, List.getElem?_eq_getElem hlt, List.getD_eq_getElem?_getD, List.getElem?_eq_getElem hlt]; rfl
      have hmem : xs.getD k 0 ∈ xs := by
        rw [List.getD_eq_getElem?_getD, List.getElem?_eq_getElem hlt]; exact List.getElem_mem _
      generalize xs.getD k 0 = y at hc htk hmem
      by_cases e : y = x
      · subst e
        have hd : decide (y ∈ xs) = true := by simpa using hmem
        go_wp2_with fail
        go_ret
        exact ⟨by rw [hd]; rfl, rfl⟩
      · have hb : (y == x) = false := by simpa using e
        have HT := Lib.hid htk
        have HE := Lib.hid e
        clear htk hmem e
        go_wp2_with fail
        go_roundw
        case rel => exact ⟨k + 1, by omega, by go_num, Lib.hid (by rw [HT.out]; simp only [List.mem_append, List.mem_singleton, not_or]; exact ⟨HN.out, fun h => HE.out h.symm⟩), by trivial⟩
        case measure => simp [intOf]; omega
    · have hn : x ∉ xs := by have := HN.out; rwa [List.take_of_length_le (by omega)] at this
      have hd : decide (x ∈ xs) = false := by simpa using hn
      go_wp2_with fail
      go_ret
      exact ⟨by rw [hd]; rfl, rfl⟩
theorem Same_is {W : World} {A B : Option Addr} {c d : Nat} {xs ys : List Int} (h : IntsAt W A xs) (h2 : IntsAt W B ys) :
    Calls Tryd.prog 17 #[.slice A xs.length c, .slice B ys.length d] W (Rets (SamePost (decide (xs = ys)) W)) := by
  have hlen := h.1
  by_cases hl : xs.length = ys.length
  · have hb : ((xs.length : Int) == (ys.length : Int)) = true := by simp [hl]
    go_enter Tryd.func17, Tryd.ntmps17
    go_wp2_with fail
    go_loopw [5] (fun v wr => ∃ k : Nat, k ≤ xs.length ∧ v = .int .i64 k ∧ Hid (∀ i, i < k → xs.getD i 0 = ys.getD i 0) ∧ Fr0 W wr) (fun v _ => xs.length - (intOf v).toNat)
    case atStart => exact ⟨0, by omega, rfl, Lib.hid (fun i hi => by omega), Fr.refl _ _⟩
    case round =>
      obtain ⟨k, hk, rfl, HN, hf⟩ := hrel
      by_cases hlt : k < xs.length
      · obtain ⟨b, o, rfl, hc⟩ := h.at_ hlt
        obtain ⟨b2, o2, rfl, hc2⟩ := h2.at_ (show k < ys.length by omega)
        replace hc := hf.cell hc (fun x => x)
        replace hc2 := hf.cell hc2 (fun x => x)
        have hkl : k < ys.length := by omega
        generalize hx : xs.getD k 0 = x at hc
        generalize hy : ys.getD k 0 = y at hc2
        have HX := Lib.hid hx
        have HY := Lib.hid hy
        have HL := Lib.hid hl
        clear hx hy
        by_cases e : x = y
        · have hb2 : (x == y) = true := by simpa using e
          have HE := Lib.hid e
          clear e
          go_wp2_with fail
          go_quiet (fail)
          go_wp2_with fail
          go_roundw
          case rel =>
            refine ⟨k + 1, by omega, by go_num, Lib.hid (fun i hi => ?_), hf.drewN _⟩
            by_cases e2 : i = k
            · rw [e2, HX.out, HY.out, HE.out]
            · exact HN.out i (by omega)
          case measure => simp [intOf]; omega
        · have hb2 : (x == y) = false := by simpa using e
          have hd : decide (xs = ys) = false := by
            rw [decide_eq_false_iff_not]; rintro rfl; exact e (HX.out.symm.trans HY.out)
          go_wp2_with fail
          go_quiet (fail)
          go_wp2_with fail
          go_ret
          exact ⟨_, rfl, by rw [hd]; rfl, hf.drewN _⟩
      · have hd : decide (xs = ys) = true := by
          rw [decide_eq_true_iff]
          apply List.ext_getElem hl
          intro i h1 h3
          have := HN.out i (by omega)
          rwa [List.getD_eq_getElem?_getD, List.getD_eq_getElem?_getD, List.getElem?_eq_getElem h1, List.getElem?_eq_getElem h3] at this
        go_wp2_with fail
        go_ret
        exact ⟨_, rfl, by rw [hd]; rfl, hf⟩
  · have hb : ((xs.length : Int) == (ys.length : Int)) = false := by simp; omega
    have hd : decide (xs = ys) = false := by rw [decide_eq_false_iff_not]; rintro rfl; exact hl rfl
    go_enter Tryd.func17, Tryd.ntmps17
    go_wp2_with fail
    go_ret
    exact ⟨_, rfl, by rw [hd]; rfl, Fr.refl _ _⟩
end Go.Proofs.YtdcjfpjpboafnaaDoor
namespace Go.Proofs.YtdcjfpjpboafnaaDoor
set_option linter.all false
open Go.RowKit
set_option maxRecDepth 100000

theorem SameO_is {W : World} {B B' c d : Nat} {A A' : Option Addr} {l : List Int} (h : W.ownsRow B 3 1 (.slice A l.length c) l.length (intsI l)) (h2 : W.ownsRow B' 3 1 (.slice A' l.length d) l.length (intsI l)) (hlen : l.length ≤ 1000000) :
    Calls Tryd.prog 17 #[.slice A l.length c, .slice A' l.length d] W (Rets (SamePost true W)) := by
  have := Same_is (c := c) (d := d) (own_intsI h (by omega)) (own_intsI h2 (by omega))
  simpa using this
end Go.Proofs.YtdcjfpjpboafnaaDoor
