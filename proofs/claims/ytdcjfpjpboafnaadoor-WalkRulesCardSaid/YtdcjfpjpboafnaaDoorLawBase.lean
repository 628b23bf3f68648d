/- From a law's walk to its statement: the arguments opened, and read again behind the call. -/
import Derived.Test.YtdcjfpjpboafnaaDoorInts
import Derived.ProofKit
import Derived.SizedLaws
import Derived.LaidMore
import Derived.OpenShut
import Derived.Stop.Joined
import Derived.SevenTiedAt
import Derived.Deep.Slices
namespace Go.Proofs.YtdcjfpjpboafnaaDoor
set_option linter.all false
open Go Go.ChangeShapes Go.WideShapes Go.RowKit
set_option maxRecDepth 100000

theorem own_knob : ownKnob Tryd.prog.godebug = none := by kernel_rfl
theorem laid_out : laidOutB Tryd.prog = true := by kernel_rfl
section
variable {H : Type} {enc : TypeId × Value → H}
/-- What was read reads the same behind a call that turns nothing. -/
theorem trodAll_below {P : Program} (hl : laidOutB P = true) {W W' : World} (hb : Below W.heap.size W W') : ∀ {ts : List TypeId} {vs : List Value} {ds : List (DataW H)} {ps : List MemPlace},
    (ts.all fun t => P.readableRec t && decide (t < P.types.size)) = true → DataW.TrodAll enc P W 0 (fun _ => true) true ts vs ds ps → (∀ x ∈ ps, x.block < W.heap.size) →
    DataW.TrodAll enc P W' 0 (fun b => decide (b < W.heap.size)) true ts vs ds ps
  | [], [], [], _, _, h, _ => h
  | t :: ts, v :: vs, d :: ds, _, hk, ⟨p, q, h, hs, e⟩, hlt => by
    subst e
    simp only [List.all_cons, Bool.and_eq_true, decide_eq_true_eq] at hk
    exact ⟨p, q, Below.trod hl hk.1.1 hk.1.2 h hb (fun x hx => hlt x (List.mem_append_left _ hx)), trodAll_below hl hb (by simpa using hk.2) hs (fun x hx => hlt x (List.mem_append_right _ hx)), rfl⟩
theorem Fr0.keptBut {W W' : World} (h : Fr0 W W') (may : MemPlace → Prop) : W.keptBut W' may := by
  refine ⟨h.os, h.output, fun i hi => ?_⟩
  rw [h.same i hi (fun x => x), Array.getElem?_eq_getElem hi]
  split <;> simp_all
/-- THE LAW's POST: it returned true, and turned nothing. -/
theorem law_post {fn : Func} {s : ChangeSpec} {W W' : World} {args : Array Value} {ds gs : List (DataW H)} {before : List MemPlace} {v : Value} (hvars : s.vars = []) (hres : fn.resultTypes = #[4])
    (hk : (fn.params.toList.all fun t => Tryd.prog.readableRec t && decide (t < Tryd.prog.types.size)) = true)
    (hW : DataW.Whole enc Tryd.prog fn.params.toList s.vars false W args.toList ds gs before) (hfn : s.fn H (ds ++ gs) = { results := [.lit (.bool true)], args := ds }) (h : SamePost true W v W') :
    s.post enc Tryd.prog fn false true false false W args v W' := by
  obtain ⟨rfl, hf⟩ := h
  have hW' := hW
  have hlt := hW.lt
  obtain ⟨p, q, hA, hV, rfl, _, _⟩ := hW
  rw [hvars] at hV
  obtain ⟨rfl, rfl⟩ := trodVars_none hV
  refine ⟨ds, [], _, [], p, [], hW', ?_, ?_, ?_, hf.keptBut _, fun h => by cases h⟩
  · rw [hfn, hres]
    exact trodAll_mk1 (shut_bool Tryd.underlying4 true)
  · rw [hfn]
    exact trodAll_below laid_out hf.below hk hA (fun x hx => hlt x (by simpa using hx))
  · rw [hfn, hvars]; exact rfl

theorem cells_int : Tryd.prog.cellsOf 3 = 1 := by kernel_rfl
theorem bytes_int : Tryd.prog.bytesOf 3 = 8 := by kernel_rfl
/-- A row of whole numbers, as an argument. -/
theorem open_intsA {W : World} {A : Option Addr} {n c : Nat} {d : DataW H} {p : List MemPlace} (h : DataW.Trod enc Tryd.prog W 0 (fun _ => true) true 33 (.slice A n c) d p)
    (hsz : ∀ el sp, d = .slice el sp → (el.length + sp.length) * Tryd.prog.bytesOf 3 ≤ reachBytes) : ∃ l : List Int, l.length = n ∧ IntsAt W A l ∧ Plain A l.length c := by
  obtain ⟨fuel, hf⟩ := h
  rcases open_ints Tryd.underlying33 Tryd.underlying3 cells_int hf with ⟨hc, _⟩ | ⟨a, len, cap, zs, hc, hb, hl, hm, hz, hx, hel, _⟩
  · simp [Value.cells] at hc
    obtain ⟨rfl, rfl, rfl⟩ := hc
    exact ⟨[], rfl, ⟨by simp, .inl rfl⟩, fun _ => ⟨rfl, rfl⟩⟩
  · simp [Value.cells] at hc
    obtain ⟨rfl, rfl, rfl⟩ := hc
    simp only [if_true] at hz
    simp only [Prod.mk.injEq] at hx
    have hbound := hsz _ _ hx.1
    rw [bytes_int] at hbound
    simp only [lits, List.length_map, List.length_take, List.length_drop, reachBytes] at hbound
    refine ⟨zs.take n, by rw [List.length_take]; omega, ⟨by rw [List.length_take]; omega, ?_⟩, fun e => by cases e⟩
    by_cases hn0 : n = 0
    · left; subst hn0; rfl
    · right
      have hasp : a.spot = none := by
        cases hs : a.spot with
        | none => rfl
        | some sp =>
          have := hel 0 (by omega)
          simp [World.cell?, Addr.add, hs] at this
          split at this <;> cases this
      obtain ⟨b, o, sp⟩ := a
      simp only at hasp
      subst hasp
      refine ⟨b, o, rfl, fun j hj => ?_⟩
      have hj' : j < n := by rw [List.length_take] at hj; omega
      have h3 := hel j (by omega)
      have ea : (⟨b, o, none⟩ : Addr).add j = ⟨b, o + j, none⟩ := by unfold Addr.add; split <;> simp_all
      rw [ea] at h3
      rw [h3, List.getD_eq_getElem?_getD, List.getD_eq_getElem?_getD, List.getElem?_take, if_pos hj']
/-- .. and it has as much room as it is long. -/
theorem open_intsC {W : World} {A : Option Addr} {n c : Nat} {d : DataW H} {p : List MemPlace} (h : DataW.Trod enc Tryd.prog W 0 (fun _ => true) true 33 (.slice A n c) d p)
    (hsz : ∀ el sp, d = .slice el sp → (el.length + sp.length) * Tryd.prog.bytesOf 3 ≤ reachBytes) : ∃ l : List Int, l.length = n ∧ IntsAt W A l ∧ Plain A l.length c ∧ l.length ≤ c := by
  obtain ⟨l, h1, h2, h3⟩ := open_intsA h hsz
  refine ⟨l, h1, h2, h3, ?_⟩
  obtain ⟨fuel, hf⟩ := h
  rcases open_ints Tryd.underlying33 Tryd.underlying3 cells_int hf with ⟨hc, _⟩ | ⟨a, len, cap, zs, hc, hb, hl, _⟩
  · simp [Value.cells] at hc
    obtain ⟨rfl, rfl, rfl⟩ := hc
    omega
  · simp [Value.cells] at hc
    obtain ⟨rfl, rfl, rfl⟩ := hc
    omega
end
theorem wants_none {P : Program} {ps : Array TypeId} (h : (ps.toList.all fun t => !P.wantsStandIn t) = true) {j : Nat} {t : TypeId} (ht : ps[j]? = some t) : P.wantsStandIn t = false := by
  have hm : t ∈ ps.toList := by
    rw [← Array.getElem?_toList] at ht
    exact List.mem_of_getElem? ht
  have := List.all_eq_true.1 h t hm
  simpa using this
end Go.Proofs.YtdcjfpjpboafnaaDoor
