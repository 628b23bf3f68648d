/- A row of texts, as an argument. -/
import Derived.Test.YtekigojbkhjdbaaLawBase
import Derived.Test.YtekigojbkhjdbaaStrs
import Derived.Deep.Strs
namespace Go.Proofs.Ytekigojbkhjdbaa
set_option linter.all false
open Go Go.ChangeShapes Go.WideShapes Go.RowKit
set_option maxRecDepth 100000
theorem cells_str : Try.prog.cellsOf 9 = 1 := by kernel_rfl
theorem bytes_str : Try.prog.bytesOf 9 = 16 := by kernel_rfl
section
variable {H : Type} {enc : TypeId × Value → H}
theorem open_strsA {W : World} {A : Option Addr} {n c : Nat} {d : DataW H} {p : List MemPlace} (h : DataW.Trod enc Try.prog W 0 (fun _ => true) true 22 (.slice A n c) d p)
    (hsz : ∀ el sp, d = .slice el sp → (el.length + sp.length) * Try.prog.bytesOf 9 ≤ reachBytes) : ∃ l : List Txt, l.length = n ∧ StrsAt W A l ∧ Plain A l.length c := by
  obtain ⟨fuel, hf⟩ := h
  rcases Deep.open_strs Try.underlying22 Try.underlying9 cells_str hf with ⟨hc, _⟩ | ⟨a, len, cap, m, Sx, hc, hb, hl, hm, hmm, hx, hel⟩
  · simp [Value.cells] at hc
    obtain ⟨rfl, rfl, rfl⟩ := hc
    exact ⟨[], rfl, ⟨by simp, .inl rfl⟩, fun _ => ⟨rfl, rfl⟩⟩
  · simp [Value.cells] at hc
    obtain ⟨rfl, rfl, rfl⟩ := hc
    have hlm : n ≤ m := by rw [hmm]; split <;> omega
    simp only [Prod.mk.injEq] at hx
    have hbound := hsz _ _ hx.1
    rw [bytes_str] at hbound
    simp only [List.length_map, List.length_range, reachBytes] at hbound
    refine ⟨(List.range n).map fun i => (Sx i).data.toList, by simp, ⟨by simp; omega, ?_⟩, fun e => by cases e⟩
    by_cases hn0 : n = 0
    · left; subst hn0; rfl
    · right
      have hasp : a.spot = none := by
        cases hs : a.spot with
        | none => rfl
        | some sp =>
          have := (hel 0 (by omega)).1
          simp [World.cell?, Addr.add, hs] at this
          split at this <;> cases this
      obtain ⟨b, o, sp⟩ := a
      simp only at hasp
      subst hasp
      refine ⟨b, o, rfl, fun j hj => ?_⟩
      have hj' : j < n := by simpa using hj
      have h3 := (hel j (by omega)).1
      have ea : (⟨b, o, none⟩ : Addr).add j = ⟨b, o + j, none⟩ := by unfold Addr.add; split <;> simp_all
      rw [ea] at h3
      rw [h3]
      simp [List.getD_eq_getElem?_getD, hj', encStr]
end
end Go.Proofs.Ytekigojbkhjdbaa
