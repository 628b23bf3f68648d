/- A row appended to one's own row, at a step of a region that draws its order, and at a list; and onto an empty literal. -/
import Derived.Test.YtidpmbbkpclccaaInts
import Derived.Deep.AppendLies
namespace Go.Proofs.Ytidpmbbkpclccaa
set_option linter.all false
open Go.RowKit
set_option maxRecDepth 100000

theorem run_append_ints {w : World} {B : Nat} {v : Value} {xs ys : List Int} (hown : w.ownsRow B 3 1 v xs.length (intsI xs)) {A : Option Addr} {c : Nat} (hy : IntsAt w A ys) (hp : Plain A ys.length c)
    (hb : (xs.length + ys.length) * 8 ≤ 140737488355328) (hB : B ≤ w.heap.size) (ty : Nat) :
    ∃ v' w', (Builtin.append_ #[23, 23] ty #[v, .slice A ys.length c]).run Try.prog w = .ok v' w' ∧ w'.ownsRow B 3 1 v' (xs ++ ys).length (intsI (xs ++ ys)) ∧ w.grownBy w' v.ownBlock := by
  obtain ⟨i0, hi, hz0, hz1, hz2⟩ := info_parts info_int
  have e : intsI xs ++ intsI ys = intsI (xs ++ ys) := by simp [intsI]
  have el : xs.length + ys.length = (xs ++ ys).length := by simp
  cases A with
  | none =>
    obtain ⟨h1, h2⟩ := hp rfl
    have := List.eq_nil_of_length_eq_zero h1
    subst this
    subst h2
    refine ⟨v, w, run_append_owned_none w B 23 ty 3 i0 1 Try.underlying23 hi v xs.length (intsI xs) hown, by simpa using hown, ⟨rfl, rfl, rfl, Nat.le_refl _, fun _ _ _ => rfl⟩⟩
  | some ad =>
    have hnews : ∀ j u, (intsI ys)[j]? = some u → w.cell? (ad.add j) = some u := by
      rcases hy.2 with e | ⟨b, o, e, _⟩
      · subst e; intro j u hu; simp [intsI] at hu
      · cases e; exact ints_news hy
    obtain ⟨v', w', hr, h2, h3, _⟩ := run_append_own (P := Try.prog) (w := w) B 23 ty 3 i0 (.int .i64 0) 1 8 Try.underlying23 hi hz0 hz1 hz2 rfl (by decide) v xs.length (intsI xs) hown ad ys.length c (intsI ys) (by simp [intsI]) hnews (intsI_one ys) (by unfold maxLen; omega) hb hB
    exact ⟨v', w', hr, by rw [e, el] at h2; exact h2, h3⟩
/-- Onto an empty literal: nothing that was there is turned. -/
theorem run_append_lit {w : World} {N : Nat} (hN : w.heap[N]? = some (.cells #[] 3 (0, 0))) {ys : List Int} {A : Option Addr} {c : Nat} (hy : IntsAt w A ys) (hp : Plain A ys.length c)
    (hb : ys.length * 8 ≤ 140737488355328) (ty : Nat) {B : Nat} (hB : B ≤ N) :
    ∃ v' w', (Builtin.append_ #[23, 23] ty #[.slice (some ⟨N, 0, none⟩) 0 0, .slice A ys.length c]).run Try.prog w = .ok v' w' ∧ w'.ownsRow B 3 1 v' ys.length (intsI ys) ∧ Fr0 w w' := by
  obtain ⟨i0, hi, hz0, hz1, hz2⟩ := info_parts info_int
  have hown : w.ownsRow B 3 1 (.slice (some ⟨N, 0, none⟩) 0 0) 0 (intsI []) := ⟨rfl, .inr ⟨N, 0, #[], rfl, hB, hN, Nat.le_refl _, by unfold maxLen; omega, rfl, rfl⟩⟩
  have hNlt := heap_lt hN
  by_cases h0 : ys = []
  · subst h0
    cases A with
    | none =>
      obtain ⟨_, h2⟩ := hp rfl
      subst h2
      exact ⟨_, w, run_append_owned_none w B 23 ty 3 i0 1 Try.underlying23 hi _ 0 (intsI []) hown, hown, Fr.refl _ _⟩
    | some ad =>
      refine ⟨.slice (some ⟨N, 0, none⟩) 0 0, w, ?_, hown, Fr.refl _ _⟩
      simp [Builtin.append_, run_underlying Try.underlying23, sizeOf, typeInfo, hi, Builtin.lenOf, Builtin.firstCells, loadCells, loadCellsFrom, storeCells]
  · have hl : 0 < ys.length := Nat.pos_of_ne_zero (fun e => h0 (List.length_eq_zero_iff.1 e))
    obtain ⟨b, o, rfl⟩ : ∃ b o, A = some ⟨b, o, none⟩ := by
      rcases hy.2 with e | ⟨b, o, e, _⟩
      · exact absurd e h0
      · exact ⟨b, o, e⟩
    have hr := run_append_grow (P := Try.prog) w 23 ty 3 i0 (.int .i64 0) Try.underlying23 hi hz0 ⟨N, 0, none⟩ 0 0 [] (by simp) (fun j u hu => by simp at hu) ⟨b, o, none⟩ ys.length c (intsI ys) (by simp [intsI, hz1]) (ints_news hy) (by omega) (by omega) (growslice_fits (by omega) (by rw [hz2]; omega))
    have := run_append_ints (xs := []) hown hy hp (by simpa using hb) (by omega) ty
    obtain ⟨v', w', hr2, h2, _⟩ := this
    have hr' := hr
    rw [hr2] at hr'
    injection hr' with e1 e2
    refine ⟨v', w', hr2, by simpa using h2, ?_⟩
    rw [e2]
    exact (fr_drew _ _).alloc _

section
variable {ops : Array Oper} {o : Oper} {a : Act} {w : World} {K : Act → World → Prop} {Q : Exit → Act → World → Prop} {E : Prop}
/-- At a step of a region that draws its order: append, by what its run comes to. -/
theorem step_append_run (hgd : o.guard = none) (s x : Operand) (t : TypeId) (ho : o.op = .call { callee := .builtin .append, args := #[s, x], argTypes := #[t, t] })
    {v xv v' : Value} {w' : World} (hs : a.eval s = v) (hx : a.eval x = xv) (hr : (Builtin.append_ #[t, t] o.type #[v, xv]).run Try.prog w = .ok v' w') (h : K (a.put o.dst v') w') :
    if Region.wanted o (yielded ops a.tmps) = true then Oper.wp Try.prog o a w K Q else E := by
  have hw : Region.wanted o (yielded ops a.tmps) = true := by simp [Region.wanted, hgd]
  rw [if_pos hw]
  unfold Oper.wp execOp
  simp only [ho, resolve, invoke, builtin, Sem.run_bind, Sem.run_pure, Result.andThen_ok, List.map_toArray, List.map_cons, List.map_nil, hs, hx, hr]
  exact h
theorem step_append_lit (hgd : o.guard = none) (s x : Operand) (ho : o.op = .call { callee := .builtin .append, args := #[s, x], argTypes := #[23, 23] })
    {N B c : Nat} {A : Option Addr} {ys : List Int} (hs : a.eval s = .slice (some ⟨N, 0, none⟩) 0 0) (hx : a.eval x = .slice A ys.length c) (hp : Plain A ys.length c) (hb : ys.length * 8 ≤ 140737488355328)
    (hN : w.heap[N]? = some (.cells #[] 3 (0, 0))) (hB : B ≤ N) (hy : IntsAt w A ys)
    (h : ∀ v' w', w'.ownsRow B 3 1 v' ys.length (intsI ys) → Fr0 w w' → K (a.put o.dst v') w') :
    if Region.wanted o (yielded ops a.tmps) = true then Oper.wp Try.prog o a w K Q else E := by
  obtain ⟨v', w', hr, h1, h2⟩ := run_append_lit hN hy hp hb o.type hB
  exact step_append_run hgd s x _ ho hs hx hr (h v' w' h1 h2)
theorem step_append_ints (hgd : o.guard = none) (s x : Operand) (ho : o.op = .call { callee := .builtin .append, args := #[s, x], argTypes := #[23, 23] })
    {B c : Nat} {A : Option Addr} {v : Value} {xs ys : List Int} (hs : a.eval s = v) (hx : a.eval x = .slice A ys.length c) (hp : Plain A ys.length c) (hb : (xs.length + ys.length) * 8 ≤ 140737488355328)
    (hB : B ≤ w.heap.size) (hown : w.ownsRow B 3 1 v xs.length (intsI xs)) (hy : IntsAt w A ys)
    (h : ∀ v' w', w'.ownsRow B 3 1 v' (xs ++ ys).length (intsI (xs ++ ys)) → Fr (fun k => v.ownBlock = some k) w w' → K (a.put o.dst v') w') :
    if Region.wanted o (yielded ops a.tmps) = true then Oper.wp Try.prog o a w K Q else E := by
  obtain ⟨v', w', hr, h1, h2⟩ := run_append_ints hown hy hp hb hB o.type
  exact step_append_run hgd s x _ ho hs hx hr (h v' w' h1 (append_fr0 hown h2))
end
section
variable {ops : Array Oper} {rest : List Oper} {o : Oper} {a : Act} {w : World} {Q : Exit → Act → World → Prop}
/-- At a list of operations: the same two. -/
theorem wpList_append_run (hgd : o.guard = none) (s x : Operand) (t : TypeId) (ho : o.op = .call { callee := .builtin .append, args := #[s, x], argTypes := #[t, t] })
    {v xv v' : Value} {w' : World} (hs : a.eval s = v) (hx : a.eval x = xv) (hr : (Builtin.append_ #[t, t] o.type #[v, xv]).run Try.prog w = .ok v' w') (h : wpList Try.prog ops Q rest (a.put o.dst v') w') :
    wpList Try.prog ops Q (o :: rest) a w := by
  refine wpList_plain hgd fun _ hK => ?_
  unfold Oper.wp execOp
  simp only [ho, resolve, invoke, builtin, Sem.run_bind, Sem.run_pure, Result.andThen_ok, List.map_toArray, List.map_cons, List.map_nil, hs, hx, hr]
  exact hK _ _ h
theorem wpList_append_lit (hgd : o.guard = none) (s x : Operand) (ho : o.op = .call { callee := .builtin .append, args := #[s, x], argTypes := #[23, 23] })
    {N B c : Nat} {A : Option Addr} {ys : List Int} (hs : a.eval s = .slice (some ⟨N, 0, none⟩) 0 0) (hx : a.eval x = .slice A ys.length c) (hp : Plain A ys.length c) (hb : ys.length * 8 ≤ 140737488355328)
    (hN : w.heap[N]? = some (.cells #[] 3 (0, 0))) (hB : B ≤ N) (hy : IntsAt w A ys)
    (h : ∀ v' w', w'.ownsRow B 3 1 v' ys.length (intsI ys) → Fr0 w w' → wpList Try.prog ops Q rest (a.put o.dst v') w') :
    wpList Try.prog ops Q (o :: rest) a w := by
  obtain ⟨v', w', hr, h1, h2⟩ := run_append_lit hN hy hp hb o.type hB
  exact wpList_append_run hgd s x _ ho hs hx hr (h v' w' h1 h2)
theorem wpList_append_ints (hgd : o.guard = none) (s x : Operand) (ho : o.op = .call { callee := .builtin .append, args := #[s, x], argTypes := #[23, 23] })
    {B c : Nat} {A : Option Addr} {v : Value} {xs ys : List Int} (hs : a.eval s = v) (hx : a.eval x = .slice A ys.length c) (hp : Plain A ys.length c) (hb : (xs.length + ys.length) * 8 ≤ 140737488355328)
    (hB : B ≤ w.heap.size) (hown : w.ownsRow B 3 1 v xs.length (intsI xs)) (hy : IntsAt w A ys)
    (h : ∀ v' w', w'.ownsRow B 3 1 v' (xs ++ ys).length (intsI (xs ++ ys)) → Fr (fun k => v.ownBlock = some k) w w' → wpList Try.prog ops Q rest (a.put o.dst v') w') :
    wpList Try.prog ops Q (o :: rest) a w := by
  obtain ⟨v', w', hr, h1, h2⟩ := run_append_ints hown hy hp hb hB o.type
  exact wpList_append_run hgd s x _ ho hs hx hr (h v' w' h1 (append_fr0 hown h2))
end
end Go.Proofs.Ytidpmbbkpclccaa
