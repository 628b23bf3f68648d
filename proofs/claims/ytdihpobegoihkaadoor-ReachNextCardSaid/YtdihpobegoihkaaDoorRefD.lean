/- The document's rows: the numbers below one. -/
import Derived.Test.YtdihpobegoihkaaDoorWarsh
namespace Go.Proofs.YtdihpobegoihkaaDoor
set_option linter.all false
open Go.RowKit
set_option maxRecDepth 100000

theorem all_is {W : World} {n : Nat} (hn : n ≤ 1000000) : Calls Tryd.prog 59 #[.int .i64 n] W (Rets (ListPost W (List.range n))) := by
  obtain ⟨i0, hi, hz0, hz1, hz2⟩ := info_parts info_int
  go_enter Tryd.func59, Tryd.ntmps59
  go_wp2_with fail
  go_loopw [3, 4] (fun v3 v4 wr => ∃ k : Nat, k ≤ n ∧ v4 = .int .i64 k ∧ Fr0 W wr ∧ wr.ownsRow W.heap.size 3 1 v3 k (ints (List.range k))) (fun _ v4 _ => n - (intOf v4).toNat)
  case atStart => exact ⟨0, by omega, rfl, Fr.refl _ _, own_nil _ _ _ _⟩
  case round =>
    obtain ⟨k, hk, rfl, hf, ho⟩ := hrel
    have hsz := hf.size
    obtain ⟨A3, c3, e3⟩ := own_form ho
    subst e3
    by_cases hlt : k < n
    · have hlt' : (k : Int) < (n : Int) := by omega
      go_wp2_with (at_builtin; refine wpList_append_own _ rfl _ _ 37 rfl W.heap.size 3 i0 (.int .i64 0) 1 8 Tryd.underlying37 hi hz0 hz1 hz2 rfl (by decide) _ _ _ rfl (own_fr0 ho (fr_alloc _ _ _)) _ 1 1 [.int .i64 (k : Int)] rfl rfl (cell_one_new _ _ _) (by simp [Value.oneCell']) (by unfold maxLen; omega) (by omega) (by simp; omega) ?_; intro v' w2 hown' hgrow _)
      go_roundw
      case rel =>
        rw [ints_snoc, ← List.range_succ] at hown'
        exact ⟨k + 1, by omega, by go_num, (hf.alloc _).trans (append_fr0 (own_fr0 ho (fr_alloc _ _ _)) hgrow) (fun j hj e => own_old ho hj e), hown'⟩
      case measure => simp [intOf]; omega
    · have hke : k = n := by omega
      subst hke
      go_wp2_with fail
      go_ret
      exact ⟨_, rfl, hf, by rw [List.length_range]; exact ho⟩
end Go.Proofs.YtdihpobegoihkaaDoor
