/- A label's test, as the program has it: the closure, walked. -/
import Derived.Test.YtjijoghbcbdohaaFitsP
import Derived.Test.YtjijoghbcbdohaaAppRow
import Derived.Deep.RegionHeldLaw
namespace Go.Proofs.Ytjijoghbcbdohaa
set_option linter.all false
open Go.RowKit
set_option maxRecDepth 100000

theorem slice_tailI {A : Option Addr} {c i : Nat} {zs : List Int} (hp : Plain A zs.length c) (hc : zs.length ≤ c) (hi : i ≤ zs.length) :
    ∃ A' c', (∀ wx, (Instr.slice 22 (.slice A zs.length c) (some (.int .i64 (i : Int))) none none).run Try.prog wx = .ok (.slice A' (zs.drop i).length c') wx) ∧ Plain A' (zs.drop i).length c' ∧ (zs.drop i).length ≤ c' ∧
      ∀ w, IntsAt w A zs → IntsAt w A' (zs.drop i) := by
  refine ⟨if c = i then A else A.map (·.add (i * 1)), c - i, fun wx => ?_, ?_, by rw [List.length_drop]; omega, fun w h => ⟨by rw [List.length_drop]; have := h.1; omega, ?_⟩⟩
  · rw [run_slice_l (P := Try.prog) wx 22 A zs.length c elem_ints .i64 (i : Int) (by omega) (by omega)]
    go_simp
  · intro hA
    have : A = none := by
      cases A with
      | none => rfl
      | some a => split at hA <;> cases hA
    have := hp this
    rw [List.length_drop]; omega
  · by_cases hci : c = i
    · left; rw [List.drop_eq_nil_iff]; omega
    · rw [if_neg hci]
      rcases h.2 with rfl | ⟨b, o, rfl, hcc⟩
      · left; simp
      · refine .inr ⟨b, o + i, by simp [Addr.add], fun j hj => ?_⟩
        rw [List.length_drop] at hj
        rw [Nat.add_assoc, hcc (i + j) (by omega)]
        simp [List.getD_eq_getElem?_getD, List.getElem?_drop]
/-- What the closure sees. -/
structure LabK (bm bn bh bq bk : Nat) (m a b c d : Int) (had k : Nat) (A : Option Addr) (cp : Nat) (xs : List Int) (W : World) : Prop where
  m : Box W bm 3 (.int .i64 m)
  n : FourB W bn a b c d
  h : Box W bh 3 (.int .i64 had)
  q : Box W bq 22 (.slice A xs.length cp)
  k : Box W bk 3 (.int .i64 k)
  x : IntsAt W A xs
theorem LabK.fr0 {bm bn bh bq bk : Nat} {m a b c d : Int} {had k : Nat} {A : Option Addr} {cp : Nat} {xs : List Int} {W W' : World} (h : LabK bm bn bh bq bk m a b c d had k A cp xs W) (f : Fr0 W W') : LabK bm bn bh bq bk m a b c d had k A cp xs W' :=
  ⟨h.m.fr0 f, h.n.fr0 f, h.h.fr0 f, h.q.fr0 f, h.k.fr0 f, h.x.fr0 f⟩
def labB (m a b c d : Int) (had : Nat) (rest : List Int) (x : Int) : Bool := (bits .and .i64 (bits .and .i64 m a) x != 0) && canI a b c d had (x :: rest)
theorem own_one (W : World) (x : Int) : (W.alloc (.cells #[.int .i64 x] 3)).ownsRow W.heap.size 3 1 (.slice (some ⟨W.heap.size, 0, none⟩) 1 1) ([x] : List Int).length (intsI [x]) :=
  ⟨rfl, .inr ⟨W.heap.size, 1, #[.int .i64 x], rfl, Nat.le_refl _, World.alloc_heap_new W _, Nat.le_refl _, by unfold maxLen; omega, rfl, rfl⟩⟩
section
variable {ops : Array Oper} {o : Oper} {a : Act} {w : World} {K : Act → World → Prop} {Q : Exit → Act → World → Prop} {E : Prop}
theorem step_append_runG (hw : Region.wanted o (yielded ops a.tmps) = true) (s x : Operand) (t : TypeId) (ho : o.op = .call { callee := .builtin .append, args := #[s, x], argTypes := #[t, t] })
    {v xv v' : Value} {w' : World} (hs : a.eval s = v) (hx : a.eval x = xv) (hr : (Builtin.append_ #[t, t] o.type #[v, xv]).run Try.prog w = .ok v' w') (h : K (a.put o.dst v') w') :
    if Region.wanted o (yielded ops a.tmps) = true then Oper.wp Try.prog o a w K Q else E := by
  rw [if_pos hw]
  unfold Oper.wp execOp
  simp only [ho, resolve, invoke, builtin, Sem.run_bind, Sem.run_pure, Result.andThen_ok, List.map_toArray, List.map_cons, List.map_nil, hs, hx, hr]
  exact h
end
set_option maxHeartbeats 4000000 in
theorem Labels1_is {bm bn bh bq bk : Nat} {m a b c d : Int} {had k : Nat} {A : Option Addr} {cp : Nat} {xs : List Int} {W : World} (h : LabK bm bn bh bq bk m a b c d had k A cp xs W)
    (hp : Plain A xs.length cp) (hcp : xs.length ≤ cp) (hk : k < xs.length) (hsm : xs.length ≤ 1000) (hh : had ≤ 1000) (x : Int) :
    Calls Try.prog 35 #[.int .i64 x, .pointer (some ⟨bm, 0, none⟩), .pointer (some ⟨bn, 0, none⟩), .pointer (some ⟨bh, 0, none⟩), .pointer (some ⟨bq, 0, none⟩), .pointer (some ⟨bk, 0, none⟩)] W
      (Rets (PredPostI (labB m a b c d had (xs.drop (k + 1)) x) W)) := by
  have c1 := h.m.cell
  have c2 := h.n.c0
  have c3 := h.n.c1
  have c4 := h.n.c2
  have c5 := h.n.c3
  have c6 := h.h.cell
  have c7 := h.q.cell
  have c8 := h.k.cell
  have l1 := h.m.lt
  have l2 := heap_lt h.n
  have l6 := h.h.lt
  have l7 := h.q.lt
  have l8 := h.k.lt
  obtain ⟨u, hu⟩ : ∃ u, bits .and .i64 m a = u := ⟨_, rfl⟩
  obtain ⟨z, hz⟩ : ∃ z, bits .and .i64 u x = z := ⟨_, rfl⟩
  by_cases h0 : z = 0
  · have HR : Hid (labB m a b c d had (xs.drop (k + 1)) x = false) := Lib.hid (by unfold labB; rw [hu, hz, h0]; rfl)
    have b0 : (z != 0) = false := by simp [h0]
    clear h0 h
    go_enter Try.func35, Try.ntmps35
    go_wp2_with fail
    go_quiet (fail)
    go_wp2_with fail
    go_ret
    exact ⟨_, rfl, by rw [HR.out]; rfl, fr_drewN _ _ _⟩
  · have b0 : (z != 0) = true := by simp [h0]
    obtain ⟨A1, c1', hsl, hp1, hc1, hi1⟩ := slice_tailI hp hcp (i := k + 1) (by omega)
    rw [show ((k + 1 : Nat) : Int) = (k : Int) + 1 by omega] at hsl
    have hwr : IntKind.i64.wrap ((k : Int) + 1) = (k : Int) + 1 := by rw [IntKind.wrap_i64]; omega
    have HF1 : Fr0 W (W.alloc (.cells #[.int .i64 x] 3)).drew := (fr_alloc _ _ _).drew
    have HO := own_fr0 (own_one W x) (fr_drew _ _)
    have hl1 : (xs.drop (k + 1)).length ≤ 1000 := by rw [List.length_drop]; omega
    obtain ⟨v2, w2, r2, o2, f2⟩ := run_append_ints HO (hi1 _ (h.x.fr0 HF1)) hp1 (by simp; omega) HF1.size 22
    have hF2 : Fr0 W w2 := HF1.trans (append_fr0 HO f2) (fun j hj e => own_old HO hj e)
    have HR : Hid (labB m a b c d had (xs.drop (k + 1)) x = canI a b c d had (x :: xs.drop (k + 1))) := Lib.hid (by unfold labB; rw [hu, hz, b0]; rfl)
    generalize xs.drop (k + 1) = ys at hsl hp1 hc1 r2 o2 HR hl1 ⊢
    have KS := Lib.hid (show ∀ w', Fr0 W w' → (Fr0 W w' ∧ w'.cell? ⟨bm, 0, none⟩ = some (.int .i64 m) ∧ w'.cell? ⟨bn, 0, none⟩ = some (.int .i64 a) ∧ w'.cell? ⟨bn, 1, none⟩ = some (.int .i64 b) ∧ w'.cell? ⟨bn, 2, none⟩ = some (.int .i64 c) ∧ w'.cell? ⟨bn, 3, none⟩ = some (.int .i64 d) ∧ w'.cell? ⟨bh, 0, none⟩ = some (.int .i64 had) ∧ w'.cell? ⟨bq, 0, none⟩ = some (.slice A xs.length cp) ∧ w'.cell? ⟨bk, 0, none⟩ = some (.int .i64 k)) from
      fun w' f => have hL := h.fr0 f; ⟨f, hL.m.cell, hL.n.c0, hL.n.c1, hL.n.c2, hL.n.c3, hL.h.cell, hL.q.cell, hL.k.cell⟩)
    have HF2 := Lib.hid hF2
    obtain ⟨A2, c2', rfl⟩ := own_form o2
    have hM : (x :: ys).length ≤ 1001 := by simp; omega
    change w2.ownsRow _ _ _ (.slice A2 (x :: ys).length c2') (x :: ys).length (intsI (x :: ys)) at o2
    have r2 : (Builtin.append_ #[22, 22] 22 #[.slice (some ⟨W.heap.size, 0, none⟩) 1 1, .slice A1 ys.length c1']).run Try.prog (W.alloc (.cells #[.int .i64 x] 3)).drew = .ok (.slice A2 (x :: ys).length c2') w2 := r2
    generalize (x :: ys) = M at o2 r2 HR hM
    have HC := Lib.hid (Can_is (a := a) (b := b) (c := c) (d := d) (cp := c2') (had := had) (own_intsI o2 (by omega)) (by omega) (by omega))
    simp only [needV] at HC
    obtain ⟨r, hr⟩ : ∃ r, canI a b c d had M = r := ⟨_, rfl⟩
    rw [hr] at HC
    have HR2 : Hid (labB m a b c d had ys x = r) := Lib.hid (HR.out.trans hr)
    clear hr HR
    clear h0 h o2 f2 hi1 HO hF2 HF1
    go_enter Try.func35, Try.ntmps35
    go_wp2_with fail
    go_region_held_law (fun w' => Fr0 W w' ∧ w'.cell? ⟨bm, 0, none⟩ = some (.int .i64 m) ∧ w'.cell? ⟨bn, 0, none⟩ = some (.int .i64 a) ∧ w'.cell? ⟨bn, 1, none⟩ = some (.int .i64 b) ∧ w'.cell? ⟨bn, 2, none⟩ = some (.int .i64 c) ∧ w'.cell? ⟨bn, 3, none⟩ = some (.int .i64 d) ∧ w'.cell? ⟨bh, 0, none⟩ = some (.int .i64 had) ∧ w'.cell? ⟨bq, 0, none⟩ = some (.slice A xs.length cp) ∧ w'.cell? ⟨bk, 0, none⟩ = some (.int .i64 k))
      ((refine KS.out _ ?_; first | assumption | exact HF2.out | exact HF2.out.trans0 (by assumption) | exact fr_drew _ _ | exact Fr.alloc (And.left (by assumption)) _))
      (first | (refine step_append_runG (by rfl) _ _ _ rfl rfl rfl r2 ?_) | (go_at_call 33; refine (HC.out).mono ?_; rintro e w4 ⟨_, rfl, rfl, hf4⟩))
    go_wp2_with fail
    go_ret
    exact ⟨_, rfl, by rw [HR2.out]; rfl, HF2.out.trans0 hf4⟩
theorem labs_spec {bm bn bh bq bk : Nat} {m a b c d : Int} {had k : Nat} {A : Option Addr} {cp : Nat} {xs : List Int} (hp : Plain A xs.length cp) (hcp : xs.length ≤ cp) (hk : k < xs.length) (hsm : xs.length ≤ 1000) (hh : had ≤ 1000) :
    PredSpecI 35 #[.pointer (some ⟨bm, 0, none⟩), .pointer (some ⟨bn, 0, none⟩), .pointer (some ⟨bh, 0, none⟩), .pointer (some ⟨bq, 0, none⟩), .pointer (some ⟨bk, 0, none⟩)]
      (labB m a b c d had (xs.drop (k + 1))) (LabK bm bn bh bq bk m a b c d had k A cp xs) := by
  intro x w h
  exact Labels1_is h hp hcp hk hsm hh x
theorem labs_idx {bm bn bh bq bk : Nat} {m a b c d : Int} {had k : Nat} {A : Option Addr} {cp : Nat} {xs : List Int} (hp : Plain A xs.length cp) (hcp : xs.length ≤ cp) (hk : k < xs.length) (hsm : xs.length ≤ 1000) (hh : had ≤ 1000)
    {r : Int} (hr : idxFI (labB m a b c d had (xs.drop (k + 1))) [1, 2, 4] = r) {w : World} {g : Nat} (hg : IntsAt w (some ⟨g, 0, none⟩) [1, 2, 4]) (h : LabK bm bn bh bq bk m a b c d had k A cp xs w) :
    Calls Try.prog 36 #[.slice (some ⟨g, 0, none⟩) 3 3, .func (.func 35) #[] #[.pointer (some ⟨bm, 0, none⟩), .pointer (some ⟨bn, 0, none⟩), .pointer (some ⟨bh, 0, none⟩), .pointer (some ⟨bq, 0, none⟩), .pointer (some ⟨bk, 0, none⟩)]] w (Rets (IdxPostI r w)) := by
  rw [← hr]
  exact IndexFuncI_is (c := 3) (l := [1, 2, 4]) (labs_spec hp hcp hk hsm hh) (fun _ _ h f => h.fr0 f) (fun _ _ => rfl) hg (by decide) h
end Go.Proofs.Ytjijoghbcbdohaa
