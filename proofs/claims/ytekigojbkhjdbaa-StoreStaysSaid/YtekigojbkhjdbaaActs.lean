/- Rows of acts (four whole numbers each), as arguments. -/
import Derived.Test.YtekigojbkhjdbaaLawBase
import Derived.Test.YtekigojbkhjdbaaTups
namespace Go.Proofs.Ytekigojbkhjdbaa
set_option linter.all false
open Go Go.ChangeShapes Go.WideShapes Go.RowKit
set_option maxRecDepth 100000

section
variable {H : Type} {enc : TypeId × Value → H}
/-- From the cells of each element to the row. -/
theorem acts_of_cells {W : World} {a : Addr} {n cap m : Nat} (hlm : n ≤ m) (hm : m ≤ 17592186044416) (each : ∀ i, i < m → ∃ u : ActI, ActOk u ∧ ∀ j, j < 4 → W.cell? (a.add (i * 4 + j)) = (intsI (actE u))[j]?) :
    ∃ l : List ActI, l.length = n ∧ TupsAt actE 4 W (some a) l ∧ (∀ x ∈ l, ActOk x) ∧ Plain (some a) l.length cap := by
  obtain ⟨q, hq⟩ := Deep.choose_lt each
  refine ⟨(List.range n).map q, by simp, ⟨by simp; omega, ?_⟩, fun x hx => ?_, fun e => by cases e⟩
  · by_cases hn0 : n = 0
    · left; subst hn0; rfl
    · right
      have hasp : a.spot = none := by
        cases hs : a.spot with
        | none => rfl
        | some sp =>
          have := (hq 0 (by omega)).2 0 (by omega)
          simp [World.cell?, Addr.add, hs, actE, intsI] at this
          split at this <;> cases this
      obtain ⟨b, o, sp⟩ := a
      simp only at hasp
      subst hasp
      refine ⟨b, o, rfl, fun j hj i hi => ?_⟩
      have hj' : j < n := by simpa using hj
      have e : ((List.range n).map q)[j] = q j := by simp
      rw [e]
      have h3 := (hq j (by omega)).2 i hi
      have ea : (⟨b, o, none⟩ : Addr).add (j * 4 + i) = ⟨b, o + j * 4 + i, none⟩ := by unfold Addr.add; split <;> simp_all <;> omega
      rw [ea] at h3
      rw [h3]
      have : i < (actE (q j)).length := hi
      simp [intsI, List.getD_eq_getElem?_getD, List.getElem?_eq_getElem this]
  · obtain ⟨i, hi, rfl⟩ := List.mem_map.1 hx
    exact (hq i (by have := List.mem_range.1 hi; omega)).1
theorem open_acts39 {W : World} {A : Option Addr} {n c : Nat} {d : DataW H} {p : List MemPlace} (h : DataW.Trod enc Try.prog W 0 (fun _ => true) true 30 (.slice A n c) d p)
    (hsz : ∀ el sp, d = .slice el sp → (el.length + sp.length) * Try.prog.bytesOf 37 ≤ reachBytes) : ∃ l : List ActI, l.length = n ∧ TupsAt actE 4 W A l ∧ (∀ x ∈ l, ActOk x) ∧ Plain A l.length c := by
  have hby : Try.prog.bytesOf 37 = 32 := by kernel_rfl
  have hcl : Try.prog.cellsOf 37 = 4 := by kernel_rfl
  obtain ⟨fuel, hf⟩ := h
  rcases Deep.open_slice Try.underlying30 hf with ⟨hc, _⟩ | ⟨a, len, cap, m, k, D, Pl, hc, hb, hl, hm, hmm, hx, hel⟩
  · simp [Value.cells] at hc
    obtain ⟨rfl, rfl, rfl⟩ := hc
    exact ⟨[], rfl, TupsAt.nil _ _, (fun x hx => by cases hx), fun _ => ⟨rfl, rfl⟩⟩
  · simp [Value.cells] at hc
    obtain ⟨rfl, rfl, rfl⟩ := hc
    have hlm : n ≤ m := by rw [hmm]; split <;> omega
    simp only [Prod.mk.injEq] at hx
    have hbound := hsz _ _ hx.1
    rw [hby] at hbound
    simp only [List.length_map, List.length_range, reachBytes] at hbound
    refine acts_of_cells (m := m) hlm (by omega) (fun i hi => ?_)
    obtain ⟨cs', h1, h2⟩ := hel i hi
    rw [hcl] at h1
    obtain ⟨_, hlen, hcell⟩ := World.cells?_some h1
    obtain ⟨xs, k', hk', hxy, _, hxl, hfi⟩ := DataW.trod_struct Try.underlying37 h2
    match xs, hxl, cs', hlen with
    | [y0, y1, y2, y3], _, [v0, v1, v2, v3], _ =>
      have g0 := hfi 0 _ rfl
      have g1 := hfi 1 _ rfl
      have g2 := hfi 2 _ rfl
      have g3 := hfi 3 _ rfl
      simp [cells_int] at g0 g1 g2 g3
      obtain ⟨n0, e0, _, w0⟩ := DataW.trod_int Try.underlying3 g0
      obtain ⟨n1, e1, _, w1⟩ := DataW.trod_int Try.underlying3 g1
      obtain ⟨n2, e2, _, w2⟩ := DataW.trod_int Try.underlying3 g2
      obtain ⟨n3, e3, _, w3⟩ := DataW.trod_int Try.underlying3 g3
      simp only [List.cons.injEq, and_true] at e0 e1 e2 e3
      subst e0
      subst e1
      subst e2
      subst e3
      refine ⟨⟨n0, n1, n2, n3⟩, ⟨w0, w1, w2, w3⟩, fun j hj => ?_⟩
      have := hcell j hj
      rw [Deep.add_add] at this
      exact this
theorem open_acts40 {W : World} {A : Option Addr} {n c : Nat} {d : DataW H} {p : List MemPlace} (h : DataW.Trod enc Try.prog W 0 (fun _ => true) true 53 (.slice A n c) d p)
    (hsz : ∀ el sp, d = .slice el sp → (el.length + sp.length) * Try.prog.bytesOf 62 ≤ reachBytes) : ∃ l : List ActI, l.length = n ∧ TupsAt actE 4 W A l ∧ (∀ x ∈ l, ActOk x) ∧ Plain A l.length c := by
  have hby : Try.prog.bytesOf 62 = 32 := by kernel_rfl
  have hcl : Try.prog.cellsOf 62 = 4 := by kernel_rfl
  obtain ⟨fuel, hf⟩ := h
  rcases Deep.open_slice Try.underlying53 hf with ⟨hc, _⟩ | ⟨a, len, cap, m, k, D, Pl, hc, hb, hl, hm, hmm, hx, hel⟩
  · simp [Value.cells] at hc
    obtain ⟨rfl, rfl, rfl⟩ := hc
    exact ⟨[], rfl, TupsAt.nil _ _, (fun x hx => by cases hx), fun _ => ⟨rfl, rfl⟩⟩
  · simp [Value.cells] at hc
    obtain ⟨rfl, rfl, rfl⟩ := hc
    have hlm : n ≤ m := by rw [hmm]; split <;> omega
    simp only [Prod.mk.injEq] at hx
    have hbound := hsz _ _ hx.1
    rw [hby] at hbound
    simp only [List.length_map, List.length_range, reachBytes] at hbound
    refine acts_of_cells (m := m) hlm (by omega) (fun i hi => ?_)
    obtain ⟨cs', h1, h2⟩ := hel i hi
    rw [hcl] at h1
    obtain ⟨_, hlen, hcell⟩ := World.cells?_some h1
    obtain ⟨xs, k', hk', hxy, _, hxl, hfi⟩ := DataW.trod_struct Try.underlying62 h2
    match xs, hxl, cs', hlen with
    | [y0, y1, y2, y3], _, [v0, v1, v2, v3], _ =>
      have g0 := hfi 0 _ rfl
      have g1 := hfi 1 _ rfl
      have g2 := hfi 2 _ rfl
      have g3 := hfi 3 _ rfl
      simp [cells_int] at g0 g1 g2 g3
      obtain ⟨n0, e0, _, w0⟩ := DataW.trod_int Try.underlying3 g0
      obtain ⟨n1, e1, _, w1⟩ := DataW.trod_int Try.underlying3 g1
      obtain ⟨n2, e2, _, w2⟩ := DataW.trod_int Try.underlying3 g2
      obtain ⟨n3, e3, _, w3⟩ := DataW.trod_int Try.underlying3 g3
      simp only [List.cons.injEq, and_true] at e0 e1 e2 e3
      subst e0
      subst e1
      subst e2
      subst e3
      refine ⟨⟨n0, n1, n2, n3⟩, ⟨w0, w1, w2, w3⟩, fun j hj => ?_⟩
      have := hcell j hj
      rw [Deep.add_add] at this
      exact this
end
end Go.Proofs.Ytekigojbkhjdbaa
