/- The check of layer 5's statements: three numbers, of which two are alike. -/
import Derived.Test.YtekigojbkhjdbaaSetsD
import Derived.Test.YtekigojbkhjdbaaSetsE
import Derived.Test.YtekigojbkhjdbaaSeqNil
namespace Go.Proofs.Ytekigojbkhjdbaa
set_option linter.all false
open Go.RowKit
set_option maxRecDepth 100000

attribute [local go_sem] run_neq_func
theorem lit1 {W : World} (a : Int) : IntsAt (W.alloc (.cells #[.int .i64 a] 3)) (some ⟨W.heap.size, 0, none⟩) [a] := ints_lit (l := [a]) (World.alloc_heap_new _ _) (by simp)
theorem lit2 {W : World} (a b : Int) : IntsAt (W.alloc (.cells #[.int .i64 a, .int .i64 b] 3)) (some ⟨W.heap.size, 0, none⟩) [a, b] := ints_lit (l := [a, b]) (World.alloc_heap_new _ _) (by simp)
theorem lit3 {W : World} (a b c : Int) : IntsAt (W.alloc (.cells #[.int .i64 a, .int .i64 b, .int .i64 c] 3)) (some ⟨W.heap.size, 0, none⟩) [a, b, c] := ints_lit (l := [a, b, c]) (World.alloc_heap_new _ _) (by simp)
theorem lit1b {W : World} (o : Obj) (a : Int) : IntsAt ((W.alloc o).alloc (.cells #[.int .i64 a] 3)) (some ⟨W.heap.size + 1, 0, none⟩) [a] := by
  have := lit1 (W := W.alloc o) a
  rwa [World.size_alloc] at this
theorem lit2b {W : World} (o : Obj) (a b : Int) : IntsAt ((W.alloc o).alloc (.cells #[.int .i64 a, .int .i64 b] 3)) (some ⟨W.heap.size + 1, 0, none⟩) [a, b] := by
  have := lit2 (W := W.alloc o) a b
  rwa [World.size_alloc] at this
theorem plain_some {a : Addr} {n c : Nat} : Plain (some a) n c := fun h => by cases h
set_option maxHeartbeats 8000000 in
theorem works05_is (W : World) : Calls Try.prog 10 #[] W (Rets (SamePost true W)) := by
  have E1 : ofI [3, 1, 3] = [1, 3] := by decide
  have E2 : ofI ([1, 3] ++ ofI [2]) = [1, 2, 3] := by decide
  have E3 : [1, 2, 3].filter (fun x : Int => !decide (x ∈ [1, 3])) = [2] := by decide
  have E4 : cmpS [9] [1, 2] = -1 := by decide
  have HO := SOf_is (W := W.alloc (.cells #[.int .i64 3, .int .i64 1, .int .i64 3] 3)) (c := 3) (l := [3, 1, 3]) (lit3 _ _ _) plain_some (by simp)
  rw [E1] at HO
  have HO := Lib.hid HO
  have E1h := Lib.hid E2
  have E2h := Lib.hid E3
  have E3h := Lib.hid E4
  clear E1 E2 E3 E4
  go_enter Try.func10, Try.ntmps10
  go_wp2_with (first
    | (go_at_call 48; refine (SAll_is _ _ _ _).mono ?_; rintro e w' ⟨rfl, rfl⟩)
    | (go_at_call 47; have HX := SCompare_is (W := (w9.alloc (.cells #[.int .i64 9] 3)).alloc (.cells #[.int .i64 1, .int .i64 2] 3)) (c := 1) (d := 2) ((lit1 9).fr0 (fr_alloc _ _ _)) (lit2b _ 1 2) (Nat.le_of_ble_eq_true rfl); rw [E3h.out] at HX; refine HX.mono ?_; rintro e w' ⟨rfl, rfl⟩)
    | (go_at_call 46; have HX := SMinus_is (hS2.fr0 hf27) (hS1.fr0 (hG2.trans0 hf27)); rw [E2h.out] at HX; refine HX.mono ?_; rintro e w8 ⟨_, rfl, A8, c8, rfl, hf8, hS8, _⟩)
    | (go_at_call 43; refine (SList_is hS8).mono ?_; rintro e w9a ⟨v9, rfl, hf9a, ho9⟩; obtain ⟨A9, c9, rfl⟩ := own_form ho9)
    | (go_at_call 21; refine (Same_is (c := c9) (d := 1) ((own_intsI ho9 (Nat.le_of_ble_eq_true rfl)).fr0 (fr_alloc _ _ _)) (lit1 2)).mono ?_; rintro e w9 ⟨_, rfl, rfl, hf9⟩; have hf99 : Fr0 w2 w9 := (hf27.trans0 hf8).trans0 (hf9a.trans0 ((fr_alloc _ _ _).trans0 hf9)); have hby := hb1.fr0 (((fr_alloc _ _ _).trans0 hf2).trans0 hf99); have r1 := hby.cell; have hlt19 := hby.lt)
    | (go_at_call 45; refine (SHas_is (hS1.fr0 (hG2.trans0 hf26)) 2).mono ?_; rintro e w7 ⟨_, rfl, rfl, hf7⟩; have hf27 : Fr0 w2 w7 := hf26.trans0 hf7; have r1 := (hb1.fr0 (((fr_alloc _ _ _).trans0 hf2).trans0 hf27)).cell; have r2 := (hb2.fr0 (hf2b.trans0 hf7)).cell)
    | (go_at_call 45; refine (SHas_is (hS1.fr0 (hG2.trans0 hf25)) 3).mono ?_; rintro e w6 ⟨_, rfl, rfl, hf6⟩; have hf26 : Fr0 w2 w6 := hf25.trans0 hf6; have hf2b := hf2a.trans0 hf6; have r1 := (hb1.fr0 (((fr_alloc _ _ _).trans0 hf2).trans0 hf26)).cell)
    | (go_at_call 44; refine (SLen_is A1 2 c1 _).mono ?_; rintro e w5 ⟨rfl, hf5⟩; have hf25 : Fr0 w2 w5 := hf24.trans0 hf5; have hf2a := hf2c.trans0 hf5; have r1 := (hb1.fr0 (((fr_alloc _ _ _).trans0 hf2).trans0 hf25)).cell)
    | (go_at_call 21; refine (Same_is (c := c3) (d := 2) ((own_intsI ho3 (Nat.le_of_ble_eq_true rfl)).fr0 (fr_alloc _ _ _)) (lit2 1 3)).mono ?_; rintro e w4 ⟨_, rfl, rfl, hf4⟩; have hf2c : Fr0 (w2.alloc (.cells #[.slice A2 3 c2] 76)) w4 := hf3.trans0 ((fr_alloc _ _ _).trans0 hf4); have hf24 : Fr0 w2 w4 := (fr_alloc _ _ _).trans0 hf2c; have r1 := (hb1.fr0 (((fr_alloc _ _ _).trans0 hf2).trans0 hf24)).cell)
    | (go_at_call 43; refine (SList_is (hS1.fr0 (hG2.trans0 (fr_alloc _ _ _)))).mono ?_; rintro e w3 ⟨v3, rfl, hf3, ho3⟩; obtain ⟨A3, c3, rfl⟩ := own_form ho3)
    | (go_at_call 42; have HX := SWith_is (W := (w1.alloc (.cells #[.slice A1 2 c1] 76)).alloc (.cells #[.int .i64 2] 3)) (d := 1) (l := [2]) ((hS1.fr0 (fr_alloc _ _ _)).fr0 (fr_alloc _ _ _)) (lit1b _ 2) plain_some (Nat.le_of_ble_eq_true rfl); rw [E1h.out] at HX; refine HX.mono ?_; rintro e w2 ⟨_, rfl, A2, c2, rfl, hf2, hS2, _⟩; have hG2 : Fr0 w1 w2 := ((fr_alloc _ _ _).alloc _).trans0 hf2; have hb2 := Box.new w2 76 (.slice A2 3 c2); have hbx := hb1.fr0 ((fr_alloc _ _ _).trans0 hf2); have r1 := hbx.cell; have hlt12 := hbx.lt)
    | (go_at_call 41; refine (HO.out).mono ?_; rintro e w1 ⟨_, rfl, A1, c1, rfl, hf1, hS1, _⟩; have hF1 : Fr0 W w1 := (fr_alloc _ _ _).trans0 hf1; have hb1 := Box.new w1 76 (.slice A1 2 c1)))
  go_ret
  exact ⟨_, rfl, rfl, ((hF1.trans0 hG2).trans0 hf99).trans0 (((fr_alloc _ _ _).alloc _).alloc _)⟩
end Go.Proofs.Ytekigojbkhjdbaa
