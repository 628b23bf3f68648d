/- The library's comparing: cmp.Compare, cmp.Or at int; how two arcs stand. -/
import Derived.Test.YtdcjfpjpboafnaaDoorInts
import Derived.Deep.RegionWith
import Derived.Deep.RegionHeld3
import Derived.StillTailTactics
namespace Go.Proofs.YtdcjfpjpboafnaaDoor
set_option linter.all false
open Go.RowKit
set_option maxRecDepth 100000

def cmpI (a b : Int) : Int := if a < b then -1 else if b < a then 1 else 0
theorem isNaN_is (x : Int) (w : World) : Calls Tryd.prog 84 #[.int .i64 x] w fun e w' => e = .returned (.bool false) ∧ w = w' := by
  go_enter Tryd.func84, Tryd.ntmps84
  go_wp2
  go_ret
  exact ⟨rfl, rfl⟩
theorem Compare_is (a b : Int) (w : World) : Calls Tryd.prog 76 #[.int .i64 a, .int .i64 b] w fun e w' => e = .returned (.int .i64 (cmpI a b)) ∧ w = w' := by
  by_cases h1 : a < b
  · have h2 : ¬ b < a := by omega
    have e : cmpI a b = -1 := by simp [cmpI, h1]
    rw [e]
    go_enter Tryd.func76, Tryd.ntmps76
    go_wp2_with (go_at_call 84; refine (isNaN_is _ _).mono ?_; rintro e w' ⟨rfl, rfl⟩)
    go_ret
    exact ⟨rfl, rfl⟩
  · by_cases h2 : b < a
    · have e : cmpI a b = 1 := by simp [cmpI, h1, h2]
      rw [e]
      go_enter Tryd.func76, Tryd.ntmps76
      go_wp2_with (go_at_call 84; refine (isNaN_is _ _).mono ?_; rintro e w' ⟨rfl, rfl⟩)
      go_ret
      exact ⟨rfl, rfl⟩
    · have e : cmpI a b = 0 := by simp [cmpI, h1, h2]
      rw [e]
      go_enter Tryd.func76, Tryd.ntmps76
      go_wp2_with (go_at_call 84; refine (isNaN_is _ _).mono ?_; rintro e w' ⟨rfl, rfl⟩)
      go_ret
      exact ⟨rfl, rfl⟩
def orI (x y : Int) : Int := if x = 0 then y else x
/-- cmp.Or of two. -/
theorem Or2_is (b : Nat) (x y : Int) (w : World) (h0 : w.cell? ⟨b, 0, none⟩ = some (.int .i64 x)) (h1 : w.cell? ⟨b, 1, none⟩ = some (.int .i64 y)) :
    Calls Tryd.prog 75 #[.slice (some ⟨b, 0, none⟩) 2 2] w fun e w' => e = .returned (.int .i64 (orI x y)) ∧ w = w' := by
  by_cases hx : x = 0
  · subst hx
    rw [show orI 0 y = y from if_pos rfl]
    by_cases hy : y = 0
    · subst hy
      go_enter Tryd.func75, Tryd.ntmps75
      go_wp2
      refine wp_loop_rounds 3 ?_; rw [rounds_succ]
      go_wp2
      rw [rounds_succ]
      go_wp2
      rw [rounds_succ]
      go_wp2
      go_ret
      exact ⟨rfl, rfl⟩
    · have hy' : (y != 0) = true := by simpa using hy
      go_enter Tryd.func75, Tryd.ntmps75
      go_wp2
      refine wp_loop_rounds 2 ?_; rw [rounds_succ]
      go_wp2
      rw [rounds_succ]
      go_wp2
      go_ret
      exact ⟨rfl, rfl⟩
  · have hx' : (x != 0) = true := by simpa using hx
    rw [show orI x y = x from if_neg hx]
    go_enter Tryd.func75, Tryd.ntmps75
    go_wp2
    refine wp_loop_rounds 1 ?_; rw [rounds_succ]
    go_wp2
    go_ret
    exact ⟨rfl, rfl⟩

theorem cell_two (W : World) (N : Nat) (hN : W.heap.size = N) (u v : Value) (t : Nat) : (W.alloc (.cells #[u, v] t)).drew.cell? ⟨N, 0, none⟩ = some u ∧ (W.alloc (.cells #[u, v] t)).drew.cell? ⟨N, 1, none⟩ = some v := by
  subst hN
  have := World.alloc_heap_new W (.cells #[u, v] t)
  constructor <;> (simp only [World.cell?, World.drew]; rw [this]; rfl)
/-- How two arcs stand. -/
def standsI (f t f' t' : Int) : Int := orI (cmpI f f') (cmpI t t')
def StandsPost (f t f' t' : Int) (w : World) (v : Value) (w' : World) : Prop := v = .int .i64 (standsI f t f' t') ∧ Fr0 w w'
set_option maxHeartbeats 1000000 in
theorem stands_is (f t m f' t' m' : Int) (w : World) : Calls Tryd.prog 62 #[.agg #[.int .i64 f, .int .i64 t, .int .i64 m], .agg #[.int .i64 f', .int .i64 t', .int .i64 m']] w
    (Rets (StandsPost f t f' t' w)) := by
  go_enter Tryd.func62, Tryd.ntmps62
  go_wp2
  refine wp_region_still_tail 10 (by kernel_rfl) (by kernel_rfl) ?_
  simp only [List.take_succ_cons, List.take_zero, List.drop_succ_cons, List.drop_zero]
  change wpStill _ _ (World.drew _) _ _ _
  repeat still_step
  still_call ((Compare_is _ _ _).mono (fun _ _ h => ⟨h.1, h.2.symm⟩))
  repeat still_step
  still_call ((Compare_is _ _ _).mono (fun _ _ h => ⟨h.1, h.2.symm⟩))
  refine wpStill_nil ?_
  change wpList _ _ _ _ _ (World.drew _)
  go_wp2_with (go_at_call 75; refine (Or2_is _ (cmpI f f') (cmpI t t') _ (by exact (cell_two _ _ (by simp) _ _ _).1) (by exact (cell_two _ _ (by simp) _ _ _).2)).mono ?_; rintro e w' ⟨rfl, rfl⟩)
  go_ret
  exact ⟨_, rfl, rfl, (((fr_alloc _ _ _).alloc _).alloc _).drew⟩
end Go.Proofs.YtdcjfpjpboafnaaDoor
