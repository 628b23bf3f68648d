/- From a law's walk to its statement: the arguments opened, and read again behind the call; the listed table. -/
import Derived.Test.YtdcjfpjpboafnaaDoorLawBase
import Derived.Test.YtdcjfpjpboafnaaDoorWorks25
import Derived.Lib.SmallJoins
import Derived.Test.YtdcjfpjpboafnaaDoorTie
import Derived.Test.YtdcjfpjpboafnaaDoorCards
import Derived.ProofKit
import Derived.LaidMore
import Derived.OpenShut
import Derived.Stop.Joined
import Derived.SevenTiedAt
import Derived.Deep.Slices
namespace Go.Proofs.YtdcjfpjpboafnaaDoor
set_option linter.all false
open Go Go.ChangeShapes Go.WideShapes Go.RowKit
set_option maxRecDepth 100000

/-- The door's own heap meets the condition. -/
theorem door_met (os : Os) (args : Array Value) : laidMetH Tryd.prog [("math/bits.deBruijn64tab", Rows.laid_math_bits_deBruijn64tab)] ((World.doorLaid Tryd.prog 400 os).forCall (fun _ _ => 0) ⟨#[], args, []⟩).memory :=
  laidMetH_of_parts3 (fuel := 8) (laidMet_of_run' 8 (by kernel_rfl) (by kernel_rfl)) (by kernel_rfl) (by kernel_rfl)
theorem tab_global : Tryd.prog.globalNamed "math/bits.deBruijn64tab" = some 0 := by kernel_rfl
theorem tab_type : (Tryd.prog.globals[0]?).map (·.type) = some 132 := by kernel_rfl
theorem tab_cells : Tryd.prog.cellsOf 5 = 1 := by kernel_rfl
theorem tab_data {H : Type} : Rows.laid_math_bits_deBruijn64tab (H := H) = .agg (Lib.deBruijn64tab.map fun n : Nat => .lit (.int .u8 n)) := rfl
/-- What the condition gives: the table in its variable. -/
theorem tab_of_laid {W : World} (h : laidMetH Tryd.prog [("math/bits.deBruijn64tab", Rows.laid_math_bits_deBruijn64tab)] W) : Tab W := by
  rw [MakeChecks.laidMetH_plain _ _ _ (by kernel_rfl)] at h
  obtain ⟨ps, ⟨g0, t0, cs0, f0, p0, q0, hg0, ht0, hv0, hd0, _, _⟩, _, _⟩ := h
  obtain rfl := Option.some.inj (tab_global.symm.trans hg0)
  obtain rfl := Option.some.inj (tab_type.symm.trans ht0)
  obtain ⟨xs, m, rfl, hx, hlen, hn, hel⟩ := DataW.trod_array Tryd.underlying132 hd0
  simp only [Prod.mk.injEq] at hx
  have hx1 := hx.1
  rw [tab_data] at hx1
  injection hx1 with hx1
  intro j hj
  have hj64 : j < 64 := hj
  have hxs : j < xs.length := by omega
  have e1 := hel j hj64
  rw [tab_cells, Nat.mul_one] at e1
  rw [List.getElem?_eq_getElem hxs] at e1
  obtain ⟨n, c1, c2, _⟩ := DataW.trod_int Tryd.underlying5 e1
  have e2 : (Lib.deBruijn64tab.map fun n : Nat => (DataW.lit (.int .u8 n) : DataW Unit))[j]? = some (DataW.lit (.int .u8 n)) := by
    rw [hx1, List.getElem?_map, List.getElem?_eq_getElem hxs, Option.map_some, c2]
  rw [List.getElem?_map, List.getElem?_eq_getElem hj, Option.map_some] at e2
  have e3 : (Lib.deBruijn64tab[j] : Int) = n := by
    have := Option.some.inj e2
    injection this with this
    injection this with _ this
  have := World.var?_cell tab_global hv0 j
  rw [this]
  have h4 : cs0.toList[j]? = some (.int .u8 n) := by
    have : (cs0.toList.drop j).take 1 = [.int .u8 n] := c1
    have h5 := congrArg (fun l => l[0]?) this
    simpa [List.getElem?_take, List.getElem?_drop] using h5
  rw [Array.getElem?_toList] at h4
  rw [h4, ← e3, List.getD_eq_getElem?_getD, List.getElem?_eq_getElem hj]
  rfl
section
variable {H : Type} {enc : TypeId × Value → H}
theorem bytes_arc19 : Tryd.prog.bytesOf 56 = 24 := by kernel_rfl
theorem cells_arc19 : Tryd.prog.cellsOf 56 = 3 := by kernel_rfl
/-- A row of arcs, as an argument. -/
theorem open_arcs {W : World} {A : Option Addr} {n c : Nat} {d : DataW H} {p : List MemPlace} (h : DataW.Trod enc Tryd.prog W 0 (fun _ => true) true 32 (.slice A n c) d p)
    (hsz : ∀ el sp, d = .slice el sp → (el.length + sp.length) * Tryd.prog.bytesOf 56 ≤ reachBytes) : ∃ l : List ArcI, l.length = n ∧ ArcsAt W A l ∧ Plain A l.length c := by
  obtain ⟨fuel, hf⟩ := h
  rcases Deep.open_slice Tryd.underlying32 hf with ⟨hc, _⟩ | ⟨a, len, cap, m, k, D, Pl, hc, hb, hl, hm, hmm, hx, hel⟩
  · simp [Value.cells] at hc
    obtain ⟨rfl, rfl, rfl⟩ := hc
    exact ⟨[], rfl, ⟨by simp, .inl rfl⟩, fun _ => ⟨rfl, rfl⟩⟩
  · simp [Value.cells] at hc
    obtain ⟨rfl, rfl, rfl⟩ := hc
    have hlm : n ≤ m := by rw [hmm]; split <;> omega
    simp only [Prod.mk.injEq] at hx
    have hbound := hsz _ _ hx.1
    rw [bytes_arc19] at hbound
    simp only [List.length_map, List.length_range, reachBytes] at hbound
    have each : ∀ i, i < m → ∃ u : ArcI, ∀ j, j < 3 → W.cell? (a.add (i * 3 + j)) = (arcV u)[j]? := by
      intro i hi
      obtain ⟨cs', h1, h2⟩ := hel i hi
      rw [cells_arc19] at h1
      obtain ⟨_, hlen, hcell⟩ := World.cells?_some h1
      obtain ⟨xs, k', hk', hxy, _, hxl, hfi⟩ := DataW.trod_struct Tryd.underlying56 h2
      match xs, hxl, cs', hlen with
      | [y0, y1, y2], _, [v0, v1, v2], _ =>
        have g0 := hfi 0 _ rfl
        have g1 := hfi 1 _ rfl
        have g2 := hfi 2 _ rfl
        simp [cells_int] at g0 g1 g2
        obtain ⟨n0, e0, _⟩ := DataW.trod_int Tryd.underlying3 g0
        obtain ⟨n1, e1, _⟩ := DataW.trod_int Tryd.underlying3 g1
        obtain ⟨n2, e2, _⟩ := DataW.trod_int Tryd.underlying3 g2
        simp only [List.cons.injEq, and_true] at e0 e1 e2
        subst e0
        subst e1
        subst e2
        refine ⟨⟨n0, n1, n2⟩, fun j hj => ?_⟩
        have := hcell j hj
        rw [Deep.add_add] at this
        exact this
    obtain ⟨q, hq⟩ := Deep.choose_lt each
    refine ⟨(List.range n).map q, by simp, ⟨by simp; omega, ?_⟩, fun e => by cases e⟩
    by_cases hn0 : n = 0
    · left; subst hn0; rfl
    · right
      have hasp : a.spot = none := by
        cases hs : a.spot with
        | none => rfl
        | some sp =>
          have := hq 0 (by omega) 0 (by omega)
          simp [World.cell?, Addr.add, hs, arcV] at this
          split at this <;> cases this
      obtain ⟨b, o, sp⟩ := a
      simp only at hasp
      subst hasp
      refine ⟨b, o, rfl, fun j hj => ?_⟩
      have hj' : j < n := by simpa using hj
      have e : ((List.range n).map q).getD j default = q j := by
        rw [List.getD_eq_getElem?_getD, List.getElem?_eq_getElem (by simpa using hj)]; simp
      rw [e]
      have h3 := fun d hd => hq j (by omega) d hd
      have ea : ∀ d, (⟨b, o, none⟩ : Addr).add (j * 3 + d) = ⟨b, o + j * 3 + d, none⟩ := fun d => by unfold Addr.add; split <;> simp_all <;> omega
      simp only [ea] at h3
      exact ⟨h3 0 (by omega), h3 1 (by omega), h3 2 (by omega)⟩
/-- A rule, as an argument. -/
theorem open_rule {W : World} {b0 : Nat} {v : Value} {d : DataW H} {p : List MemPlace} (hv : Value.okWide Tryd.prog W .any b0 26 v) (h : DataW.Trod enc Tryd.prog W 0 (fun _ => true) true 26 v d p) : ∃ a b c : Int, v = .agg #[.int .i64 a, .int .i64 b, .int .i64 c] := by
  obtain ⟨v0, v1, v2, y0, y1, y2, n, rfl, _, _, h0, h1, h2⟩ := Go.Joins.open_agg3 Tryd.underlying26 (by kernel_rfl) (by kernel_rfl) hv h
  obtain ⟨n0, e0, _⟩ := DataW.trod_int Tryd.underlying3 h0
  obtain ⟨n1, e1, _⟩ := DataW.trod_int Tryd.underlying3 h1
  obtain ⟨n2, e2, _⟩ := DataW.trod_int Tryd.underlying3 h2
  simp only [List.cons.injEq, and_true] at e0 e1 e2
  subst e0
  subst e1
  subst e2
  exact ⟨n0, n1, n2, rfl⟩
end
end Go.Proofs.YtdcjfpjpboafnaaDoor
