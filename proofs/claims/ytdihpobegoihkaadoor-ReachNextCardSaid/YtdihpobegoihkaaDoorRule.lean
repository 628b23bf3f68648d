/- The rule of a kind. -/
import Derived.Test.YtdihpobegoihkaaDoorRefC
namespace Go.Proofs.YtdihpobegoihkaaDoor
set_option linter.all false
open Go.RowKit
set_option maxRecDepth 100000

/-- The rule of a kind, if it has one. -/
def ruleI (k : Int) : Option (Int × Int × Int) := if k = 6 then some (1, 1, 1) else if k = 9 then some (3, 2, 3) else if k = 10 then some (3, 4, 3) else if k = 11 then some (7, 4, 7) else none
def RulePost (k : Int) (W : World) (v : Value) (w' : World) : Prop :=
  Fr0 W w' ∧ v = match ruleI k with
    | some (a, b, c) => .tuple #[.agg #[.int .i64 a, .int .i64 b, .int .i64 c], .bool true]
    | none => .tuple #[.agg #[.int .i64 0, .int .i64 0, .int .i64 0], .bool false]
theorem RuleOf_is (k : Int) {W : World} : Calls Tryd.prog 61 #[.int .i64 k] W (Rets (RulePost k W)) := by
  by_cases h1 : k = 6
  · subst h1
    go_enter Tryd.func61, Tryd.ntmps61
    go_wp2_with fail
    (try simp only [Exit.inBlock, Exit.then])
    refine bodyPost_ret (v := .tuple #[.agg #[.int .i64 1, .int .i64 1, .int .i64 1], .bool true]) ?_ rfl ?_
    · simp only [results, show Tryd.f61.results = #[ResultVar.cell 2 93, ResultVar.tmp 3] from rfl]
      go_simp
    · exact ⟨_, rfl, fr_alloc _ _ _, rfl⟩
  by_cases h2 : k = 9
  · subst h2
    go_enter Tryd.func61, Tryd.ntmps61
    go_wp2_with fail
    (try simp only [Exit.inBlock, Exit.then])
    refine bodyPost_ret (v := .tuple #[.agg #[.int .i64 3, .int .i64 2, .int .i64 3], .bool true]) ?_ rfl ?_
    · simp only [results, show Tryd.f61.results = #[ResultVar.cell 2 93, ResultVar.tmp 3] from rfl]
      go_simp
    · exact ⟨_, rfl, fr_alloc _ _ _, rfl⟩
  by_cases h3 : k = 10
  · subst h3
    go_enter Tryd.func61, Tryd.ntmps61
    go_wp2_with fail
    (try simp only [Exit.inBlock, Exit.then])
    refine bodyPost_ret (v := .tuple #[.agg #[.int .i64 3, .int .i64 4, .int .i64 3], .bool true]) ?_ rfl ?_
    · simp only [results, show Tryd.f61.results = #[ResultVar.cell 2 93, ResultVar.tmp 3] from rfl]
      go_simp
    · exact ⟨_, rfl, fr_alloc _ _ _, rfl⟩
  by_cases h4 : k = 11
  · subst h4
    go_enter Tryd.func61, Tryd.ntmps61
    go_wp2_with fail
    (try simp only [Exit.inBlock, Exit.then])
    refine bodyPost_ret (v := .tuple #[.agg #[.int .i64 7, .int .i64 4, .int .i64 7], .bool true]) ?_ rfl ?_
    · simp only [results, show Tryd.f61.results = #[ResultVar.cell 2 93, ResultVar.tmp 3] from rfl]
      go_simp
    · exact ⟨_, rfl, fr_alloc _ _ _, rfl⟩
  have e : ruleI k = none := by simp [ruleI, h1, h2, h3, h4]
  have b1 : (k == 6) = false := by simpa using h1
  have b2 : (k == 9) = false := by simpa using h2
  have b3 : (k == 10) = false := by simpa using h3
  have b4 : (k == 11) = false := by simpa using h4
  go_enter Tryd.func61, Tryd.ntmps61
  go_wp2_with fail
  (try simp only [Exit.inBlock, Exit.then])
  refine bodyPost_ret (v := .tuple #[.agg #[.int .i64 0, .int .i64 0, .int .i64 0], .bool false]) ?_ rfl ?_
  · simp only [results, show Tryd.f61.results = #[ResultVar.cell 2 93, ResultVar.tmp 3] from rfl]
    go_simp
  · exact ⟨_, rfl, fr_alloc _ _ _, by rw [e]⟩
end Go.Proofs.YtdihpobegoihkaaDoor
