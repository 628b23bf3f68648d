/- WalkFits: for every input the law returns true, and each argument reads behind the call as it read before (the listed table tied to the program's text). -/
import Derived.Test.YtdcjfpjpboafnaaDoorWalkFits
import Derived.Test.YtdcjfpjpboafnaaDoorLawKit25
namespace Go.Proofs.YtdcjfpjpboafnaaDoor
set_option linter.all false
open Go Go.ChangeShapes Go.WideShapes Go.RowKit
set_option maxRecDepth 100000

theorem WalkFits_lifted (os : Os) (started : os.Started) (H : Type) (enc : TypeId × Value → H) :
    ReturnsInHanded {} Tryd.checked os 6 .any (fun w args => (Rows.walkFitsSpec.pre enc Tryd.prog Tryd.f6 [] false w args ∧ laidMetH Tryd.prog Rows.walkFitsRow.laid w) ∧ sizedMet enc Tryd.prog Tryd.f6 (OpenSpec.ofChange Rows.walkFitsSpec) false w args)
      (Rows.walkFitsSpec.post enc Tryd.prog Tryd.f6 false true false false) := by
  refine returnsInHanded_of_change_and (C := Tryd.checked) (X := (fun w _ => laidMetH Tryd.prog Rows.walkFitsRow.laid w)) (fun _ _ _ hh h => h.of_heap hh) own_knob started (by kernel_rfl) Tryd.func6
    (ChangeSpec.witness_at (enc := enc) (C := Tryd.checked) (os := os) (X := (fun w _ => laidMetH Tryd.prog Rows.walkFitsRow.laid w)) false (World.doorLaid Tryd.prog 400 os) #[.int .i64 0, .slice none 0 0, .slice none 0 0, .agg #[.int .i64 0, .int .i64 0, .int .i64 0], .int .i64 0] 8 rfl (by kernel_rfl) (by kernel_rfl) (by kernel_rfl) (by kernel_rfl) (by kernel_rfl) (door_met os _)) ?_
  intro W base args ds gs before hval0 hW _ hsz hL _
  have hval : ∀ (j : Nat) t v, Tryd.f6.params[j]? = some t → args[j]? = some v → Value.okWide Tryd.prog W .any base t v := hval0
  have hT := tab_of_laid hL
  have hW' := hW
  obtain ⟨p, q, hA0, hV0, rfl, hfz, hnd⟩ := hW
  obtain ⟨rfl, rfl⟩ := trodVars_none hV0
  have hsz' : (DataW.weightsEach Tryd.prog Tryd.f6.params.toList ds).all (· ≤ reachBytes) = true := by
    have h : (DataW.weightsEach Tryd.prog (Tryd.f6.params.toList ++ []) (ds ++ [])).all (· ≤ reachBytes) = true := hsz
    simpa only [List.append_nil] using h
  have hA : DataW.TrodAll enc Tryd.prog W 0 (fun _ => true) true Tryd.f6.params.toList args.toList ds p := hA0
  rw [Tryd.params6] at hA hval hsz'
  simp only at hA hval hsz' 
  obtain ⟨v0, vs0, d0, ds0, p0, q0, ev0, rfl, rfl, h0, hr0⟩ := trodAll_cons hA
  obtain ⟨v1, vs1, d1, ds1, p1, q1, ev1, rfl, rfl, h1, hr1⟩ := trodAll_cons hr0
  obtain ⟨v2, vs2, d2, ds2, p2, q2, ev2, rfl, rfl, h2, hr2⟩ := trodAll_cons hr1
  obtain ⟨v3, vs3, d3, ds3, p3, q3, ev3, rfl, rfl, h3, hr3⟩ := trodAll_cons hr2
  obtain ⟨v4, vs4, d4, ds4, p4, q4, ev4, rfl, rfl, h4, hr4⟩ := trodAll_cons hr3
  obtain ⟨rfl, rfl, rfl⟩ := trodAll_nil hr4
  subst ev4
  subst ev3
  subst ev2
  subst ev1
  have ea : args = #[v0, v1, v2, v3, v4] := by cases args; simp_all
  subst ea
  obtain ⟨n0, rfl, rfl, rfl, w0⟩ := open_int Tryd.underlying3 (hval 0 3 v0 rfl rfl) h0
  obtain ⟨a1, l1, c1, rfl⟩ := okWide_slice Tryd.underlying32 (hval 1 32 v1 rfl rfl)
  obtain ⟨xs1, rfl, hx1, hp1⟩ := open_arcs h1 (fun el sp e => sized_slice hsz' (j := 1) (t := 32) rfl (by rw [← e]; rfl) Tryd.underlying32)
  obtain ⟨a2, l2, c2, rfl⟩ := okWide_slice Tryd.underlying33 (hval 2 33 v2 rfl rfl)
  obtain ⟨xs2, rfl, hx2, hp2⟩ := open_intsA h2 (fun el sp e => sized_slice hsz' (j := 2) (t := 33) rfl (by rw [← e]; rfl) Tryd.underlying33)
  obtain ⟨sa3, sb3, sc3, rfl⟩ := open_rule (hval 3 26 v3 rfl rfl) h3
  obtain ⟨n4, rfl, rfl, rfl, w4⟩ := open_int Tryd.underlying3 (hval 4 3 v4 rfl rfl) h4
  refine (WalkFits_is hT hx1 hp1 hx2 hp2 w4).mono ?_
  rintro e W' ⟨v, rfl, hp⟩
  exact ⟨v, rfl, law_post rfl rfl (by kernel_rfl) hW' rfl hp⟩
theorem WalkFits_row : Rows.WalkFitsSaid :=
  OpenClaim.holds_of_wide 6 Tryd.f6 rfl rfl rfl rfl rfl rfl rfl ⟨rfl, rfl, rfl, rfl, rfl⟩ rfl rfl rfl rfl rfl (by kernel_rfl) Tryd.func6 (by kernel_rfl)
    (of_decide_eq_true (by kernel_rfl)) (by unfold Func.isWrapper; rw [if_neg (of_decide_eq_false (by kernel_rfl))]; exact ⟨rfl, rfl⟩)
    (fun os started H enc _ => WalkFits_lifted os started H enc)
theorem WalkFits_card : Rows.WalkFitsCardSaid :=
  Claim7.holds_tied_plain_at .later [] [.data] true Rows.walkFitsCard.stood.harness false
    WalkFits_row (fun _ h => by cases h) (by kernel_rfl) (fun _ h => by cases h) walkFits_row_tie rfl ⟨rfl, rfl⟩ (by kernel_rfl) rfl
    (fun f fn hf hfn => by
      obtain rfl : f = 6 := Option.some.inj ((show Tryd.prog.funcNamed "coroner/coronerlaw25.WalkFits" = some 6 by kernel_rfl).symm.trans hf) |>.symm
      obtain rfl : fn = Tryd.f6 := (Option.some.inj (Tryd.func6.symm.trans hfn)).symm
      exact ⟨by kernel_rfl, fun j t ht => wants_none (by kernel_rfl) ht⟩)
    (by kernel_rfl)
#print axioms WalkFits_card
end Go.Proofs.YtdcjfpjpboafnaaDoor
