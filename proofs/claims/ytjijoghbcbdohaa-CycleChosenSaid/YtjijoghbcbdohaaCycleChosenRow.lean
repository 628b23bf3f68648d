/- CycleChosen: for every input the law returns true, and each argument reads behind the call as it read before. -/
import Derived.Test.YtjijoghbcbdohaaCycleChosen
import Derived.Test.YtjijoghbcbdohaaLawBase
namespace Go.Proofs.Ytjijoghbcbdohaa
set_option linter.all false
open Go Go.ChangeShapes Go.WideShapes Go.RowKit
set_option maxRecDepth 100000

theorem CycleChosen_lifted (os : Os) (started : os.Started) (H : Type) (enc : TypeId × Value → H) :
    ReturnsInHanded {} Try.checked os 7 .any (Rows.cycleChosenSpec.pre6 enc Try.prog Try.f7 Rows.cycleChosenRow.domain false) (Rows.cycleChosenSpec.post enc Try.prog Try.f7 false true false false) := by
  refine returnsInHanded_of_change_sized (C := Try.checked) own_knob started (by kernel_rfl) Try.func7
    (ChangeSpec.witness6 (enc := enc) (C := Try.checked) false ⟨#[], #[.int .i64 0, .slice none 0 0], []⟩ 8 (by kernel_rfl) (by kernel_rfl) (by kernel_rfl) (by kernel_rfl)) ?_
  intro W base args ds gs before hval0 hW _ hsz _
  have hval : ∀ (j : Nat) t v, Try.f7.params[j]? = some t → args[j]? = some v → Value.okWide Try.prog W .any base t v := hval0
  have hW' := hW
  obtain ⟨p, q, hA0, hV0, rfl, hfz, hnd⟩ := hW
  obtain ⟨rfl, rfl⟩ := trodVars_none hV0
  have hsz' : (DataW.weightsEach Try.prog Try.f7.params.toList ds).all (· ≤ reachBytes) = true := by
    have h : (DataW.weightsEach Try.prog (Try.f7.params.toList ++ []) (ds ++ [])).all (· ≤ reachBytes) = true := hsz
    simpa only [List.append_nil] using h
  have hA : DataW.TrodAll enc Try.prog W 0 (fun _ => true) true Try.f7.params.toList args.toList ds p := hA0
  rw [Try.params7] at hA hval hsz'
  simp only at hA hval hsz' 
  obtain ⟨v0, vs0, d0, ds0, p0, q0, ev0, rfl, rfl, h0, hr0⟩ := trodAll_cons hA
  obtain ⟨v1, vs1, d1, ds1, p1, q1, ev1, rfl, rfl, h1, hr1⟩ := trodAll_cons hr0
  obtain ⟨rfl, rfl, rfl⟩ := trodAll_nil hr1
  subst ev1
  have ea : args = #[v0, v1] := by cases args; simp_all
  subst ea
  obtain ⟨n0, rfl, rfl, rfl, w0⟩ := open_int Try.underlying3 (hval 0 3 v0 rfl rfl) h0
  obtain ⟨a1, l1, c1, rfl⟩ := okWide_slice Try.underlying22 (hval 1 22 v1 rfl rfl)
  obtain ⟨xs1, rfl, hx1, hp1, hc1⟩ := open_intsC h1 (fun el sp e => sized_slice hsz' (j := 1) (t := 22) rfl (by rw [← e]; rfl) Try.underlying22)
  refine (CycleChosen_is w0 hx1 hp1 hc1).mono ?_
  rintro e W' ⟨v, rfl, hp⟩
  exact ⟨v, rfl, law_post rfl rfl (by kernel_rfl) hW' rfl hp⟩
theorem CycleChosen_row : Rows.CycleChosenSaid :=
  OpenClaim.holds_of_wide 7 Try.f7 rfl rfl rfl rfl rfl rfl rfl ⟨rfl, rfl, rfl, rfl, rfl⟩ rfl rfl rfl rfl rfl (by kernel_rfl) Try.func7 (by kernel_rfl)
    (of_decide_eq_true (by kernel_rfl)) (by unfold Func.isWrapper; rw [if_neg (of_decide_eq_false (by kernel_rfl))]; exact ⟨rfl, rfl⟩)
    (fun os started H enc _ => CycleChosen_lifted os started H enc)
#print axioms CycleChosen_row
end Go.Proofs.Ytjijoghbcbdohaa
