/- ReachClosed: for every input the law returns true, and each argument reads behind the call as it read before (the listed table tied to the program's text). -/
import Derived.Test.YtdihpobegoihkaaDoorReachClosed
namespace Go.Proofs.YtdihpobegoihkaaDoor
set_option linter.all false
open Go Go.ChangeShapes Go.WideShapes Go.RowKit
set_option maxRecDepth 100000

theorem ReachClosed_lifted (os : Os) (started : os.Started) (H : Type) (enc : TypeId × Value → H) :
    ReturnsInHanded {} Tryd.checked os 9 .any (fun w args => (Rows.reachClosedSpec.pre enc Tryd.prog Tryd.f9 [] false w args ∧ laidMetH Tryd.prog Rows.reachClosedRow.laid w) ∧ sizedMet enc Tryd.prog Tryd.f9 (OpenSpec.ofChange Rows.reachClosedSpec) false w args)
      (Rows.reachClosedSpec.post enc Tryd.prog Tryd.f9 false true false false) := by
  refine returnsInHanded_of_change_and (C := Tryd.checked) (X := (fun w _ => laidMetH Tryd.prog Rows.reachClosedRow.laid w)) (fun _ _ _ hh h => h.of_heap hh) own_knob started (by kernel_rfl) Tryd.func9
    (ChangeSpec.witness_at (enc := enc) (C := Tryd.checked) (os := os) (X := (fun w _ => laidMetH Tryd.prog Rows.reachClosedRow.laid w)) false (World.doorLaid Tryd.prog 400 os) #[.int .i64 0, .slice none 0 0, .slice none 0 0, .slice none 0 0, .int .i64 0] 8 rfl (by kernel_rfl) (by kernel_rfl) (by kernel_rfl) (by kernel_rfl) (by kernel_rfl) (door_met os _)) ?_
  intro W base args ds gs before hval0 hW _ hsz hL _
  have hval : ∀ (j : Nat) t v, Tryd.f9.params[j]? = some t → args[j]? = some v → Value.okWide Tryd.prog W .any base t v := hval0
  have hT := tab_of_laid hL
  have hW' := hW
  obtain ⟨p, q, hA0, hV0, rfl, hfz, hnd⟩ := hW
  obtain ⟨rfl, rfl⟩ := trodVars_none hV0
  have hsz' : (DataW.weightsEach Tryd.prog Tryd.f9.params.toList ds).all (· ≤ reachBytes) = true := by
    have h : (DataW.weightsEach Tryd.prog (Tryd.f9.params.toList ++ []) (ds ++ [])).all (· ≤ reachBytes) = true := hsz
    simpa only [List.append_nil] using h
  have hA : DataW.TrodAll enc Tryd.prog W 0 (fun _ => true) true Tryd.f9.params.toList args.toList ds p := hA0
  rw [Tryd.params9] at hA hval hsz'
  simp only at hA hval hsz' 
  obtain ⟨v0, vs0, d0, ds0, p0, q0, ev0, rfl, rfl, h0, hr0⟩ := trodAll_cons hA
  obtain ⟨v1, vs1, d1, ds1, p1, q1, ev1, rfl, rfl, h1, hr1⟩ := trodAll_cons hr0
  obtain ⟨v2, vs2, d2, ds2, p2, q2, ev2, rfl, rfl, h2, hr2⟩ := trodAll_cons hr1
  obtain ⟨v3, vs3, d3, ds3, p3, q3, ev3, rfl, rfl, h3, hr3⟩ := trodAll_cons hr2
  obtain ⟨v4, vs4, d4, ds4, p4, q4, ev4, rfl, rfl, h4, hr4⟩ := trodAll_cons hr3
  obtain ⟨rfl, rfl, rfl⟩ := trodAll_nil hr4
  subst ev4
  subst ev3
  subst ev2
  subst ev1
  have ea : args = #[v0, v1, v2, v3, v4] := by cases args; simp_all
  subst ea
  obtain ⟨n0, rfl, rfl, rfl, w0⟩ := open_int Tryd.underlying3 (hval 0 3 v0 rfl rfl) h0
  obtain ⟨a1, l1, c1, rfl⟩ := okWide_slice Tryd.underlying22 (hval 1 22 v1 rfl rfl)
  obtain ⟨xs1, rfl, hx1, hp1⟩ := open_arcs h1 (fun el sp e => sized_slice hsz' (j := 1) (t := 22) rfl (by rw [← e]; rfl) Tryd.underlying22)
  obtain ⟨a2, l2, c2, rfl⟩ := okWide_slice Tryd.underlying37 (hval 2 37 v2 rfl rfl)
  obtain ⟨xs2, rfl, hx2, hp2⟩ := open_intsA h2 (fun el sp e => sized_slice hsz' (j := 2) (t := 37) rfl (by rw [← e]; rfl) Tryd.underlying37)
  obtain ⟨a3, l3, c3, rfl⟩ := okWide_slice Tryd.underlying37 (hval 3 37 v3 rfl rfl)
  obtain ⟨xs3, rfl, hx3, hp3⟩ := open_intsA h3 (fun el sp e => sized_slice hsz' (j := 3) (t := 37) rfl (by rw [← e]; rfl) Tryd.underlying37)
  obtain ⟨n4, rfl, rfl, rfl, w4⟩ := open_int Tryd.underlying3 (hval 4 3 v4 rfl rfl) h4
  refine (ReachClosed_is hT hx1 hp1 hx2 hp2 hx3 hp3).mono ?_
  rintro e W' ⟨v, rfl, hp⟩
  exact ⟨v, rfl, law_post rfl rfl (by kernel_rfl) hW' rfl hp⟩
theorem ReachClosed_row : Rows.ReachClosedSaid :=
  OpenClaim.holds_of_wide 9 Tryd.f9 rfl rfl rfl rfl rfl rfl rfl ⟨rfl, rfl, rfl, rfl, rfl⟩ rfl rfl rfl rfl rfl (by kernel_rfl) Tryd.func9 (by kernel_rfl)
    (of_decide_eq_true (by kernel_rfl)) (by unfold Func.isWrapper; rw [if_neg (of_decide_eq_false (by kernel_rfl))]; exact ⟨rfl, rfl⟩)
    (fun os started H enc _ => ReachClosed_lifted os started H enc)
theorem ReachClosed_card : Rows.ReachClosedCardSaid :=
  Claim7.holds_tied_plain_at .later [] [.data] true Rows.reachClosedCard.stood.harness false
    ReachClosed_row (fun _ h => by cases h) (by kernel_rfl) (fun _ h => by cases h) reachClosed_row_tie rfl ⟨rfl, rfl⟩ (by kernel_rfl) rfl
    (fun f fn hf hfn => by
      obtain rfl : f = 9 := Option.some.inj ((show Tryd.prog.funcNamed "coroner/coronerlaw21.ReachClosed" = some 9 by kernel_rfl).symm.trans hf) |>.symm
      obtain rfl : fn = Tryd.f9 := (Option.some.inj (Tryd.func9.symm.trans hfn)).symm
      exact ⟨by kernel_rfl, fun j t ht => wants_none (by kernel_rfl) ht⟩)
    (by kernel_rfl)
#print axioms ReachClosed_card
end Go.Proofs.YtdihpobegoihkaaDoor
