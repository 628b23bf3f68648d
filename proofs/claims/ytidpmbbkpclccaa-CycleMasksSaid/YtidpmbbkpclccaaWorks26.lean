/- The check of layer 26's statements: a cycle of three. -/
import Derived.Test.YtidpmbbkpclccaaCyLab
import Derived.Test.YtidpmbbkpclccaaCyP
namespace Go.Proofs.Ytidpmbbkpclccaa
set_option linter.all false
open Go.RowKit
set_option maxRecDepth 100000

theorem lit26 {W : World} (l : List Int) (hl : l.length ≤ 1000) : IntsAt (W.alloc (.cells (intsI l).toArray 3)) (some ⟨W.heap.size, 0, none⟩) l := ints_lit (World.alloc_heap_new _ _) (by omega)
theorem lit26b {W : World} (o : Obj) (l : List Int) (hl : l.length ≤ 1000) : IntsAt ((W.alloc o).alloc (.cells (intsI l).toArray 3)) (some ⟨W.heap.size + 1, 0, none⟩) l := by
  have := lit26 (W := W.alloc o) l hl
  rwa [World.size_alloc] at this
theorem plain26 {a : Addr} {n c : Nat} : Plain (some a) n c := fun h => by cases h
theorem turn_ev1 : turnC [5, 2, 9] = [2, 9, 5] := by decide
theorem turn_ev2 : cmpS (turnC [5, 2]) (turnC [2, 5]) = 0 := by decide
theorem simple_ev1 : simpleC [5, 2] = true := by decide
theorem simple_ev2 : simpleC [5, 2, 5] = false := by decide
theorem lab_ev : labelsP 9 [3, 2] = some [1, 2] := by decide
theorem fits_ev : fitsP 11 [4, 4] = true := by decide
set_option maxHeartbeats 8000000 in
theorem works26_is (W : World) : Calls Try.prog 5 #[] W (Rets (SamePost true W)) := by
  have HL := Lib.hid (Labels_yes (W := W.alloc (.cells #[.int .i64 3, .int .i64 2] 3)) (kind := 9) (by decide) (cp := 2) (xs := [3, 2]) (lit26 [3, 2] (by decide)) plain26 (by decide) (by decide) lab_ev)
  have HT : Hid (∀ (w : World), Calls Try.prog 12 #[.slice (some ⟨w.heap.size, 0, none⟩) 3 3] (w.alloc (.cells #[.int .i64 5, .int .i64 2, .int .i64 9] 3)) (Rets (IListPost (w.alloc (.cells #[.int .i64 5, .int .i64 2, .int .i64 9] 3)) [2, 9, 5]))) :=
    Lib.hid (fun w => by have h := Turn_is (c := 3) (xs := [5, 2, 9]) (lit26 (W := w) [5, 2, 9] (by decide)) plain26 (by decide) (by decide); rw [turn_ev1] at h; exact h)
  have HS1 : Hid (∀ (w : World), Calls Try.prog 13 #[.slice (some ⟨w.heap.size, 0, none⟩) 2 2] (w.alloc (.cells #[.int .i64 5, .int .i64 2] 3)) (Rets (SamePost true (w.alloc (.cells #[.int .i64 5, .int .i64 2] 3))))) :=
    Lib.hid (fun w => by have h := Simple_is (c := 2) (xs := [5, 2]) (lit26 (W := w) [5, 2] (by decide)) plain26 (by decide); rw [simple_ev1] at h; exact h)
  have HS2 : Hid (∀ (w : World), Calls Try.prog 13 #[.slice (some ⟨w.heap.size, 0, none⟩) 3 3] (w.alloc (.cells #[.int .i64 5, .int .i64 2, .int .i64 5] 3)) (Rets (SamePost false (w.alloc (.cells #[.int .i64 5, .int .i64 2, .int .i64 5] 3))))) :=
    Lib.hid (fun w => by have h := Simple_is (c := 3) (xs := [5, 2, 5]) (lit26 (W := w) [5, 2, 5] (by decide)) plain26 (by decide); rw [simple_ev2] at h; exact h)
  have HC : Hid (∀ (w : World), Calls Try.prog 14 #[.slice (some ⟨w.heap.size, 0, none⟩) 2 2, .slice (some ⟨w.heap.size + 1, 0, none⟩) 2 2] ((w.alloc (.cells #[.int .i64 5, .int .i64 2] 3)).alloc (.cells #[.int .i64 2, .int .i64 5] 3)) (Rets (fun v w' => v = .int .i64 0 ∧ Fr0 ((w.alloc (.cells #[.int .i64 5, .int .i64 2] 3)).alloc (.cells #[.int .i64 2, .int .i64 5] 3)) w'))) :=
    Lib.hid (fun w => by have h := CyCompare_is (c := 2) (d := 2) (xs := [5, 2]) (ys := [2, 5]) ((lit26 (W := w) [5, 2] (by decide)).fr0 (fr_alloc _ _ (.cells #[.int .i64 2, .int .i64 5] 3))) plain26 (by decide) (lit26b (W := w) (.cells #[.int .i64 5, .int .i64 2] 3) [2, 5] (by decide)) plain26 (by decide) (by decide) (by decide); rw [turn_ev2] at h; exact h)
  have HF : Hid (∀ (w : World), Calls Try.prog 15 #[.int .i64 11, .slice (some ⟨w.heap.size, 0, none⟩) 2 2] (w.alloc (.cells #[.int .i64 4, .int .i64 4] 3)) (Rets (SamePost true (w.alloc (.cells #[.int .i64 4, .int .i64 4] 3))))) :=
    Lib.hid (fun w => by have h := Fits_is (kind := 11) (by decide) (cp := 2) (xs := [4, 4]) (lit26 (W := w) [4, 4] (by decide)) (by decide); rw [fits_ev] at h; exact h)
  have HM : Hid (∀ (w : World) A c, IntsAt w A [2, 9, 5] → Calls Try.prog 10 #[.slice A 3 c, .slice (some ⟨w.heap.size, 0, none⟩) 3 3] (w.alloc (.cells #[.int .i64 2, .int .i64 9, .int .i64 5] 3)) (Rets (SamePost true (w.alloc (.cells #[.int .i64 2, .int .i64 9, .int .i64 5] 3))))) :=
    Lib.hid (fun w A c h => Same_is (c := c) (d := 3) (xs := [2, 9, 5]) (ys := [2, 9, 5]) (h.fr0 (fr_alloc _ _ _)) (lit26 (W := w) [2, 9, 5] (by decide)))
  have HM2 : Hid (∀ (w : World) A c, IntsAt w A [1, 2] → Calls Try.prog 10 #[.slice A 2 c, .slice (some ⟨w.heap.size, 0, none⟩) 2 2] (w.alloc (.cells #[.int .i64 1, .int .i64 2] 3)) (Rets (SamePost true (w.alloc (.cells #[.int .i64 1, .int .i64 2] 3))))) :=
    Lib.hid (fun w A c h => Same_is (c := c) (d := 2) (xs := [1, 2]) (ys := [1, 2]) (h.fr0 (fr_alloc _ _ _)) (lit26 (W := w) [1, 2] (by decide)))
  have e3 : [2, 9, 5].length = 3 := rfl
  unfold YesPost at HL
  unfold IListPost at HT
  go_enter Try.func5, Try.ntmps5
  go_wp2_with (first
    | (go_at_call 15; refine (HF.out w7).mono ?_; rintro e w8 ⟨_, rfl, rfl, hf8⟩)
    | (go_at_call 10; refine (HM2.out w6 A1 c1 (hi1.fr0 hF6)).mono ?_; rintro e w7 ⟨_, rfl, rfl, hf7⟩)
    | (go_at_call 14; refine (HC.out w5).mono ?_; rintro e w6 ⟨_, rfl, rfl, hf6⟩; have hF6 : Fr0 w1 w6 := hF5.trans0 (((fr_alloc _ _ _).alloc _).trans0 hf6))
    | (go_at_call 13; refine (HS2.out w4).mono ?_; rintro e w5 ⟨_, rfl, rfl, hf5⟩; have hF5 : Fr0 w1 w5 := hF4.trans0 ((fr_alloc _ _ _).trans0 hf5))
    | (go_at_call 13; refine (HS1.out w3).mono ?_; rintro e w4 ⟨_, rfl, rfl, hf4⟩; have hF4 : Fr0 w1 w4 := hF3.trans0 ((fr_alloc _ _ _).trans0 hf4))
    | (go_at_call 10; refine (HM.out w2 A2 c2 hi2).mono ?_; rintro e w3 ⟨_, rfl, rfl, hf3⟩; have hF3 : Fr0 w1 w3 := hF2.trans0 ((fr_alloc _ _ _).trans0 hf3))
    | (go_at_call 12; refine (HT.out w1).mono ?_; rintro e w2 ⟨v2, rfl, hf2, ho2⟩; obtain ⟨A2, c2, rfl⟩ := own_form ho2; have hi2 : IntsAt w2 A2 [2, 9, 5] := own_intsI ho2 (Nat.le_of_ble_eq_true rfl); have hF2 : Fr0 w1 w2 := (fr_alloc _ _ _).trans0 hf2)
    | (go_at_call 11; refine (HL.out).mono ?_; rintro e w1 ⟨_, rfl, hf1, A1, c1, rfl, ho1⟩; have hi1 : IntsAt w1 A1 [1, 2] := own_intsI ho1 (Nat.le_of_ble_eq_true rfl); have hF1 : Fr0 W w1 := (fr_alloc _ _ _).trans0 hf1))
  go_ret
  exact ⟨_, rfl, rfl, (hF1.trans0 hF6).trans0 ((((fr_alloc _ _ _).trans0 hf7).alloc _).trans0 hf8)⟩
end Go.Proofs.Ytidpmbbkpclccaa
