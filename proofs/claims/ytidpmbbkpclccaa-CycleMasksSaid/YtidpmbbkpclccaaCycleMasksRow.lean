/- CycleMasks: for every input the law returns true, and each argument reads behind the call as it read before. -/
import Derived.Test.YtidpmbbkpclccaaCycleMasks
import Derived.Test.YtidpmbbkpclccaaLawBase
import Derived.Test.YtidpmbbkpclccaaOpenArcsW
namespace Go.Proofs.Ytidpmbbkpclccaa
set_option linter.all false
open Go Go.ChangeShapes Go.WideShapes Go.RowKit
set_option maxRecDepth 100000

theorem CycleMasks_lifted (os : Os) (started : os.Started) (H : Type) (enc : TypeId × Value → H) :
    ReturnsInHanded {} Try.checked os 3 .any (Rows.cycleMasksSpec.pre6 enc Try.prog Try.f3 Rows.cycleMasksRow.domain false) (Rows.cycleMasksSpec.post enc Try.prog Try.f3 false true false false) := by
  refine returnsInHanded_of_change_sized (C := Try.checked) own_knob started (by kernel_rfl) Try.func3
    (ChangeSpec.witness6 (enc := enc) (C := Try.checked) false ⟨#[], #[.int .i64 0, .slice none 0 0, .slice none 0 0], []⟩ 8 (by kernel_rfl) (by kernel_rfl) (by kernel_rfl) (by kernel_rfl)) ?_
  intro W base args ds gs before hval0 hW _ hsz _
  have hval : ∀ (j : Nat) t v, Try.f3.params[j]? = some t → args[j]? = some v → Value.okWide Try.prog W .any base t v := hval0
  have hW' := hW
  obtain ⟨p, q, hA0, hV0, rfl, hfz, hnd⟩ := hW
  obtain ⟨rfl, rfl⟩ := trodVars_none hV0
  have hsz' : (DataW.weightsEach Try.prog Try.f3.params.toList ds).all (· ≤ reachBytes) = true := by
    have h : (DataW.weightsEach Try.prog (Try.f3.params.toList ++ []) (ds ++ [])).all (· ≤ reachBytes) = true := hsz
    simpa only [List.append_nil] using h
  have hA : DataW.TrodAll enc Try.prog W 0 (fun _ => true) true Try.f3.params.toList args.toList ds p := hA0
  rw [Try.params3] at hA hval hsz'
  simp only at hA hval hsz' 
  obtain ⟨v0, vs0, d0, ds0, p0, q0, ev0, rfl, rfl, h0, hr0⟩ := trodAll_cons hA
  obtain ⟨v1, vs1, d1, ds1, p1, q1, ev1, rfl, rfl, h1, hr1⟩ := trodAll_cons hr0
  obtain ⟨v2, vs2, d2, ds2, p2, q2, ev2, rfl, rfl, h2, hr2⟩ := trodAll_cons hr1
  obtain ⟨rfl, rfl, rfl⟩ := trodAll_nil hr2
  subst ev2
  subst ev1
  have ea : args = #[v0, v1, v2] := by cases args; simp_all
  subst ea
  obtain ⟨n0, rfl, rfl, rfl, w0⟩ := open_int Try.underlying3 (hval 0 3 v0 rfl rfl) h0
  obtain ⟨a1, l1, c1, rfl⟩ := okWide_slice Try.underlying22 (hval 1 22 v1 rfl rfl)
  obtain ⟨xs1, rfl, hx1, hp1, hr1w⟩ := open_arcsW h1 (fun el sp e => sized_slice hsz' (j := 1) (t := 22) rfl (by rw [← e]; rfl) Try.underlying22)
  obtain ⟨a2, l2, c2, rfl⟩ := okWide_slice Try.underlying23 (hval 2 23 v2 rfl rfl)
  obtain ⟨xs2, rfl, hx2, hp2⟩ := open_intsA h2 (fun el sp e => sized_slice hsz' (j := 2) (t := 23) rfl (by rw [← e]; rfl) Try.underlying23)
  refine (CycleMasks_is hx1 hp1 hr1w hx2 hp2).mono ?_
  rintro e W' ⟨v, rfl, hp⟩
  exact ⟨v, rfl, law_post rfl rfl (by kernel_rfl) hW' rfl hp⟩
theorem CycleMasks_row : Rows.CycleMasksSaid :=
  OpenClaim.holds_of_wide 3 Try.f3 rfl rfl rfl rfl rfl rfl rfl ⟨rfl, rfl, rfl, rfl, rfl⟩ rfl rfl rfl rfl rfl (by kernel_rfl) Try.func3 (by kernel_rfl)
    (of_decide_eq_true (by kernel_rfl)) (by unfold Func.isWrapper; rw [if_neg (of_decide_eq_false (by kernel_rfl))]; exact ⟨rfl, rfl⟩)
    (fun os started H enc _ => CycleMasks_lifted os started H enc)
#print axioms CycleMasks_row
end Go.Proofs.Ytidpmbbkpclccaa
