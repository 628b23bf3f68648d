/- WalkRules: for every input the law returns true, and each argument reads behind the call as it read before (the listed table tied to the program's text). -/
import Derived.Test.YtdcjfpjpboafnaaDoorWalkRules
import Derived.Test.YtdcjfpjpboafnaaDoorLawKit25
namespace Go.Proofs.YtdcjfpjpboafnaaDoor
set_option linter.all false
open Go Go.ChangeShapes Go.WideShapes Go.RowKit
set_option maxRecDepth 100000

theorem WalkRules_lifted (os : Os) (started : os.Started) (H : Type) (enc : TypeId × Value → H) :
    ReturnsInHanded {} Tryd.checked os 3 .any (fun w args => (Rows.walkRulesSpec.pre enc Tryd.prog Tryd.f3 [] false w args ∧ laidMetH Tryd.prog Rows.walkRulesRow.laid w) ∧ sizedMet enc Tryd.prog Tryd.f3 (OpenSpec.ofChange Rows.walkRulesSpec) false w args)
      (Rows.walkRulesSpec.post enc Tryd.prog Tryd.f3 false true false false) := by
  refine returnsInHanded_of_change_and (C := Tryd.checked) (X := (fun w _ => laidMetH Tryd.prog Rows.walkRulesRow.laid w)) (fun _ _ _ hh h => h.of_heap hh) own_knob started (by kernel_rfl) Tryd.func3
    (ChangeSpec.witness_at (enc := enc) (C := Tryd.checked) (os := os) (X := (fun w _ => laidMetH Tryd.prog Rows.walkRulesRow.laid w)) false (World.doorLaid Tryd.prog 400 os) #[.int .i64 0] 8 rfl (by kernel_rfl) (by kernel_rfl) (by kernel_rfl) (by kernel_rfl) (by kernel_rfl) (door_met os _)) ?_
  intro W base args ds gs before hval0 hW _ hsz hL _
  have hval : ∀ (j : Nat) t v, Tryd.f3.params[j]? = some t → args[j]? = some v → Value.okWide Tryd.prog W .any base t v := hval0
  have hT := tab_of_laid hL
  have hW' := hW
  obtain ⟨p, q, hA0, hV0, rfl, hfz, hnd⟩ := hW
  obtain ⟨rfl, rfl⟩ := trodVars_none hV0
  have hsz' : (DataW.weightsEach Tryd.prog Tryd.f3.params.toList ds).all (· ≤ reachBytes) = true := by
    have h : (DataW.weightsEach Tryd.prog (Tryd.f3.params.toList ++ []) (ds ++ [])).all (· ≤ reachBytes) = true := hsz
    simpa only [List.append_nil] using h
  have hA : DataW.TrodAll enc Tryd.prog W 0 (fun _ => true) true Tryd.f3.params.toList args.toList ds p := hA0
  rw [Tryd.params3] at hA hval hsz'
  simp only at hA hval hsz' 
  obtain ⟨v0, vs0, d0, ds0, p0, q0, ev0, rfl, rfl, h0, hr0⟩ := trodAll_cons hA
  obtain ⟨rfl, rfl, rfl⟩ := trodAll_nil hr0
  have ea : args = #[v0] := by cases args; simp_all
  subst ea
  obtain ⟨n0, rfl, rfl, rfl, w0⟩ := open_int Tryd.underlying3 (hval 0 3 v0 rfl rfl) h0
  refine (WalkRules_is hT ).mono ?_
  rintro e W' ⟨v, rfl, hp⟩
  exact ⟨v, rfl, law_post rfl rfl (by kernel_rfl) hW' rfl hp⟩
theorem WalkRules_row : Rows.WalkRulesSaid :=
  OpenClaim.holds_of_wide 3 Tryd.f3 rfl rfl rfl rfl rfl rfl rfl ⟨rfl, rfl, rfl, rfl, rfl⟩ rfl rfl rfl rfl rfl (by kernel_rfl) Tryd.func3 (by kernel_rfl)
    (of_decide_eq_true (by kernel_rfl)) (by unfold Func.isWrapper; rw [if_neg (of_decide_eq_false (by kernel_rfl))]; exact ⟨rfl, rfl⟩)
    (fun os started H enc _ => WalkRules_lifted os started H enc)
theorem WalkRules_card : Rows.WalkRulesCardSaid :=
  Claim7.holds_tied_plain_at .later [] [.data] true Rows.walkRulesCard.stood.harness false
    WalkRules_row (fun _ h => by cases h) (by kernel_rfl) (fun _ h => by cases h) walkRules_row_tie rfl ⟨rfl, rfl⟩ (by kernel_rfl) rfl
    (fun f fn hf hfn => by
      obtain rfl : f = 3 := Option.some.inj ((show Tryd.prog.funcNamed "coroner/coronerlaw25.WalkRules" = some 3 by kernel_rfl).symm.trans hf) |>.symm
      obtain rfl : fn = Tryd.f3 := (Option.some.inj (Tryd.func3.symm.trans hfn)).symm
      exact ⟨by kernel_rfl, fun j t ht => wants_none (by kernel_rfl) ht⟩)
    (by kernel_rfl)
#print axioms WalkRules_card
end Go.Proofs.YtdcjfpjpboafnaaDoor
