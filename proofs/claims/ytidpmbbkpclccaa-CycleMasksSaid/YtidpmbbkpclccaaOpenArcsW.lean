/- Rows of arcs as arguments: masks within their bounds. -/
import Derived.Test.YtidpmbbkpclccaaLawBase
import Derived.Test.YtidpmbbkpclccaaMaskPure
namespace Go.Proofs.Ytidpmbbkpclccaa
set_option linter.all false
open Go Go.ChangeShapes Go.WideShapes Go.RowKit
set_option maxRecDepth 100000

theorem inR_wf {x : Int} (h : (Lit.int .i64 x).wf = true) : inR x := by
  simp [Lit.wf, IntKind.min, IntKind.max, IntKind.signed, IntKind.bits] at h
  unfold inR
  rw [IntKind.wrap_i64]
  omega
section
variable {H : Type} {enc : TypeId × Value → H}
theorem bytes_arc19W : Try.prog.bytesOf 28 = 24 := by kernel_rfl
theorem cells_arc19W : Try.prog.cellsOf 28 = 3 := by kernel_rfl
theorem open_arcsW {W : World} {A : Option Addr} {n c : Nat} {d : DataW H} {p : List MemPlace} (h : DataW.Trod enc Try.prog W 0 (fun _ => true) true 22 (.slice A n c) d p)
    (hsz : ∀ el sp, d = .slice el sp → (el.length + sp.length) * Try.prog.bytesOf 28 ≤ reachBytes) : ∃ l : List ArcI, l.length = n ∧ ArcsAt W A l ∧ Plain A l.length c ∧ ∀ a ∈ l, inR a.m := by
  obtain ⟨fuel, hf⟩ := h
  rcases Deep.open_slice Try.underlying22 hf with ⟨hc, _⟩ | ⟨a, len, cap, m, k, D, Pl, hc, hb, hl, hm, hmm, hx, hel⟩
  · simp [Value.cells] at hc
    obtain ⟨rfl, rfl, rfl⟩ := hc
    exact ⟨[], rfl, ⟨by simp, .inl rfl⟩, fun _ => ⟨rfl, rfl⟩, fun a ha => by cases ha⟩
  · simp [Value.cells] at hc
    obtain ⟨rfl, rfl, rfl⟩ := hc
    have hlm : n ≤ m := by rw [hmm]; split <;> omega
    simp only [Prod.mk.injEq] at hx
    have hbound := hsz _ _ hx.1
    rw [bytes_arc19W] at hbound
    simp only [List.length_map, List.length_range, reachBytes] at hbound
    have each : ∀ i, i < m → ∃ u : ArcI, (∀ j, j < 3 → W.cell? (a.add (i * 3 + j)) = (arcV u)[j]?) ∧ inR u.m := by
      intro i hi
      obtain ⟨cs', h1, h2⟩ := hel i hi
      rw [cells_arc19W] at h1
      obtain ⟨_, hlen, hcell⟩ := World.cells?_some h1
      obtain ⟨xs, k', hk', hxy, _, hxl, hfi⟩ := DataW.trod_struct Try.underlying28 h2
      match xs, hxl, cs', hlen with
      | [y0, y1, y2], _, [v0, v1, v2], _ =>
        have g0 := hfi 0 _ rfl
        have g1 := hfi 1 _ rfl
        have g2 := hfi 2 _ rfl
        simp [cells_int] at g0 g1 g2
        obtain ⟨n0, e0, _⟩ := DataW.trod_int Try.underlying3 g0
        obtain ⟨n1, e1, _⟩ := DataW.trod_int Try.underlying3 g1
        obtain ⟨n2, e2, w2⟩ := DataW.trod_int Try.underlying3 g2
        simp only [List.cons.injEq, and_true] at e0 e1 e2
        subst e0
        subst e1
        subst e2
        refine ⟨⟨n0, n1, n2⟩, fun j hj => ?_, inR_wf w2.2⟩
        have := hcell j hj
        rw [Deep.add_add] at this
        exact this
    obtain ⟨q, hq⟩ := Deep.choose_lt each
    refine ⟨(List.range n).map q, by simp, ⟨by simp; omega, ?_⟩, fun e => (by cases e), fun b hb => ?_⟩
    rotate_left
    · obtain ⟨i, hi, rfl⟩ := List.mem_map.1 hb
      exact (hq i (by have := List.mem_range.1 hi; omega)).2
    by_cases hn0 : n = 0
    · left; subst hn0; rfl
    · right
      have hasp : a.spot = none := by
        cases hs : a.spot with
        | none => rfl
        | some sp =>
          have := (hq 0 (by omega)).1 0 (by omega)
          simp [World.cell?, Addr.add, hs, arcV] at this
          split at this <;> cases this
      obtain ⟨b, o, sp⟩ := a
      simp only at hasp
      subst hasp
      refine ⟨b, o, rfl, fun j hj => ?_⟩
      have hj' : j < n := by simpa using hj
      have e : ((List.range n).map q).getD j default = q j := by
        rw [List.getD_eq_getElem?_getD, List.getElem?_eq_getElem (by simpa using hj)]; simp
      rw [e]
      have h3 := fun d hd => (hq j (by omega)).1 d hd
      have ea : ∀ d, (⟨b, o, none⟩ : Addr).add (j * 3 + d) = ⟨b, o + j * 3 + d, none⟩ := fun d => by unfold Addr.add; split <;> simp_all <;> omega
      simp only [ea] at h3
      exact ⟨h3 0 (by omega), h3 1 (by omega), h3 2 (by omega)⟩
end
end Go.Proofs.Ytidpmbbkpclccaa
