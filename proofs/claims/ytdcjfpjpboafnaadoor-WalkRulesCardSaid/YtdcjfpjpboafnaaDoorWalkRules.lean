/- The rule of any kind is as the document says: the law's walk. -/
import Derived.Test.YtdcjfpjpboafnaaDoorWorks25
namespace Go.Proofs.YtdcjfpjpboafnaaDoor
set_option linter.all false
open Go.RowKit
attribute [local go_sem] run_eql_struct
set_option maxRecDepth 100000

theorem rule_form (k : Int) : ∃ (a b c : Int) (f : Bool), ∀ W v w', RulePost k W v w' → Fr0 W w' ∧ v = .tuple #[.agg #[.int .i64 a, .int .i64 b, .int .i64 c], .bool f] := by
  unfold RulePost
  rcases ruleI k with _ | ⟨a, b, c⟩
  · exact ⟨0, 0, 0, false, fun _ _ _ h => h⟩
  · exact ⟨a, b, c, true, fun _ _ _ h => h⟩
theorem three_held {w0 : World} {x y z : Value} {t : Nat} : ∀ w', Fr0 (w0.alloc (.cells #[x, y, z] t)) w' → w'.cell? ⟨w0.heap.size, 0, none⟩ = some x ∧ w'.cell? ⟨w0.heap.size, 1, none⟩ = some y ∧ w'.cell? ⟨w0.heap.size, 2, none⟩ = some z := by
  intro w' f
  have hc : ∀ (i : Nat) (v : Value), (#[x, y, z] : Array Value)[i]? = some v → (w0.alloc (.cells #[x, y, z] t)).cell? ⟨w0.heap.size, i, none⟩ = some v := fun i v hv => by rw [World.cell?, World.alloc_heap_new]; exact hv
  exact ⟨f.cell (hc 0 _ rfl) (fun x => x), f.cell (hc 1 _ rfl) (fun x => x), f.cell (hc 2 _ rfl) (fun x => x)⟩
set_option maxHeartbeats 8000000 in
theorem WalkRules_is {W : World} {k : Int} (hT : Tab W) : Calls Tryd.prog 3 #[.int .i64 k] W (Rets (SamePost true W)) := by
  obtain ⟨a, b, c, f, hk⟩ := rule_form k
  have HT := Lib.hid hT
  have HK := Lib.hid hk
  clear hT hk
  go_enter Tryd.func3, Tryd.ntmps3
  go_wp2_with (first
    | (go_at_call 7; refine (RuleOf_is k).mono ?_; rintro e w1 ⟨_, rfl, h⟩; obtain ⟨hf1, rfl⟩ := HK.out _ _ _ h; clear h)
    | (go_at_call 8; refine (RuleOf25_is k).mono ?_; rintro e w2 ⟨_, rfl, h⟩; obtain ⟨hf2, rfl⟩ := HK.out _ _ _ h; clear h))
  have hB1 := three_held (w0 := w1) (x := .int .i64 a) (y := .int .i64 b) (z := .int .i64 c) (t := 23)
  have hB2 := three_held (w0 := w2) (x := .int .i64 a) (y := .int .i64 b) (z := .int .i64 c) (t := 26)
  have hf3 : Fr0 (w1.alloc (.cells #[.int .i64 a, .int .i64 b, .int .i64 c] 23)) (w2.alloc (.cells #[.int .i64 a, .int .i64 b, .int .i64 c] 26)) := hf2.trans0 (fr_alloc _ _ _)
  have hF : Fr0 W (w2.alloc (.cells #[.int .i64 a, .int .i64 b, .int .i64 c] 26)) := (hf1.trans0 (fr_alloc _ _ _)).trans0 hf3
  obtain ⟨w3, hw3⟩ : ∃ w3, w2.alloc (.cells #[.int .i64 a, .int .i64 b, .int .i64 c] 26) = w3 := ⟨_, rfl⟩
  rw [hw3] at hB2 hf3 hF ⊢
  clear hw3
  have HKS := Lib.hid (show ∀ w', Fr0 w3 w' → (Fr0 w3 w' ∧ (w'.cell? ⟨w1.heap.size, 0, none⟩ = some (.int .i64 a) ∧ w'.cell? ⟨w1.heap.size, 1, none⟩ = some (.int .i64 b) ∧ w'.cell? ⟨w1.heap.size, 2, none⟩ = some (.int .i64 c)) ∧ w'.cell? ⟨w2.heap.size, 0, none⟩ = some (.int .i64 a) ∧ w'.cell? ⟨w2.heap.size, 1, none⟩ = some (.int .i64 b) ∧ w'.cell? ⟨w2.heap.size, 2, none⟩ = some (.int .i64 c)) from fun w' f => ⟨f, hB1 w' (hf3.trans0 f), hB2 w' f⟩)
  have KW := Lib.hid (fun w' (f : Fr0 w3 w') => works25_is (HT.out.fr (hF.trans0 f) (fun x => x)))
  clear hB1 hB2
  cases f
  all_goals
    go_region_held_law (fun w' => Fr0 w3 w' ∧ (w'.cell? ⟨w1.heap.size, 0, none⟩ = some (.int .i64 a) ∧ w'.cell? ⟨w1.heap.size, 1, none⟩ = some (.int .i64 b) ∧ w'.cell? ⟨w1.heap.size, 2, none⟩ = some (.int .i64 c)) ∧ w'.cell? ⟨w2.heap.size, 0, none⟩ = some (.int .i64 a) ∧ w'.cell? ⟨w2.heap.size, 1, none⟩ = some (.int .i64 b) ∧ w'.cell? ⟨w2.heap.size, 2, none⟩ = some (.int .i64 c))
      ((refine HKS.out _ ?_; first | exact fr_drew _ _ | assumption | exact And.left (by assumption)))
      (first
        | (go_at_call 9; refine (ruleL_is a b c).mono ?_; rintro e w4 ⟨_, rfl, rfl, hf4⟩; have hF4 := Fr.trans0 (And.left (by assumption)) hf4)
        | (go_at_call 10; refine (KW.out _ (And.left (by assumption))).mono ?_; rintro e w5 ⟨_, rfl, rfl, hf5⟩; have hF5 := Fr.trans0 (And.left (by assumption)) hf5))
    go_wp2_with fail
    go_ret
    exact ⟨_, rfl, rfl, hF.trans0 hF5⟩
end Go.Proofs.YtdcjfpjpboafnaaDoor
