/- What leads where: Row, Cyclic. -/
import Derived.Test.YtdihpobegoihkaaDoorClo
namespace Go.Proofs.YtdihpobegoihkaaDoor
set_option linter.all false
open Go.RowKit
set_option maxRecDepth 100000

theorem RowC_nil (a : Int) {W : World} (hT : Tab W) : Calls Tryd.prog 18 #[.pointer none, .int .i64 a] W (Rets (NewBits W 0 (fun _ => false))) := by
  have HN := Lib.hid (New_is 0 W hT)
  go_enter Tryd.func18, Tryd.ntmps18
  go_wp2_with (go_at_call 50; refine (HN.out).mono ?_; rintro e w' ⟨_, rfl, g, q, rfl, k1, k2, k3, k4⟩)
  go_ret
  exact ⟨_, rfl, g, q, rfl, k1, k2, k3, k4⟩
/-- The row of a number. -/
def rowI (n : Nat) (M : Nat → Nat → Bool) (a : Int) : Nat → Bool := fun k => hasI n a && M a.toNat k
theorem RowC_is {W : World} {cg n : Nat} {L : List (Nat × Nat)} {M : Nat → Nat → Bool} (h : IsClo W cg n L M) (a : Int) :
    Calls Tryd.prog 18 #[.pointer (some ⟨cg, 0, none⟩), .int .i64 a] W (Rets (NewBits W n (rowI n M a))) := by
  obtain ⟨A, c, h1, h2⟩ := h.cells
  have HH := Lib.hid (has_is h a)
  have hn := h.room
  cases hh : hasI n a with
  | false =>
    rw [hh] at HH
    have HN := Lib.hid (New_is (n : Int) W h.tab)
    have e : rowI n M a = fun _ => false := by funext k; simp [rowI, hh]
    rw [e]
    clear h hh h2
    go_enter Tryd.func18, Tryd.ntmps18
    go_wp2_with (first | (go_at_call 55; refine (HH.out).mono ?_; rintro e w' ⟨rfl, rfl⟩) | (go_at_call 50; refine (HN.out).mono ?_; rintro e w' ⟨_, rfl, g, q, rfl, k1, k2, k3, k4⟩))
    go_ret
    rw [show (max 0 (min (n : Int) 65536)).toNat = n by omega] at k4
    exact ⟨_, rfl, g, q, rfl, k1, k2, k3, k4⟩
  | true =>
    rw [hh] at HH
    have hb : 0 ≤ a ∧ a < n := by simpa [hasI] using hh
    obtain ⟨hb1, hb2⟩ := hb
    obtain ⟨i, rfl⟩ : ∃ i : Nat, a = (i : Int) := ⟨a.toNat, by omega⟩
    have e : rowI n M i = M i := by funext k; simp [rowI, hh]
    rw [e]
    obtain ⟨q, rfl, hq⟩ := h2 i (by omega)
    have HB := Lib.hid (Clone_is (h.bits i (by omega)))
    generalize (L.getD i default).1 = gi at hq HB
    clear h hh h2 e
    go_enter Tryd.func18, Tryd.ntmps18
    go_wp2_with (first | (go_at_call 55; refine (HH.out).mono ?_; rintro e w' ⟨rfl, rfl⟩) | (go_at_call 56; refine (HB.out).mono ?_; rintro e w' ⟨_, rfl, g, q2, rfl, k1, k2, k3, k4⟩))
    go_ret
    exact ⟨_, rfl, g, q2, rfl, k1, k2, k3, k4⟩
theorem Cyclic_nil (W : World) : Calls Tryd.prog 25 #[.pointer none] W fun e w' => e = .returned (.slice none 0 0) ∧ W = w' := by
  go_enter Tryd.func25, Tryd.ntmps25
  go_wp2_with fail
  go_ret
  exact ⟨rfl, rfl⟩
theorem ints_snoc (l : List Nat) (x : Nat) : ints l ++ [.int .i64 (x : Int)] = ints (l ++ [x]) := by simp [ints]
theorem range_succ_filter (p : Nat → Bool) (k : Nat) : (List.range (k + 1)).filter p = (List.range k).filter p ++ (if p k = true then [k] else []) := by
  rw [List.range_succ, List.filter_append, List.filter_cons, List.filter_nil]
set_option maxHeartbeats 2000000 in
theorem Cyclic_is {W : World} {cg n : Nat} {L : List (Nat × Nat)} {M : Nat → Nat → Bool} (h : IsClo W cg n L M) :
    Calls Tryd.prog 25 #[.pointer (some ⟨cg, 0, none⟩)] W (Rets (ListPost W (elems n (fun v => M v v)))) := by
  obtain ⟨i0, hi, hz0, hz1, hz2⟩ := info_parts info_int
  obtain ⟨A, c, h1, h2⟩ := h.cells
  have hn := h.room
  have HC := Lib.hid h
  clear h h2
  go_enter Tryd.func25, Tryd.ntmps25
  go_wp2_with fail
  go_loopw [3, 12] (fun v3 v12 wr => ∃ (k : Nat) (l : List Nat), k ≤ n ∧ v12 = .int .i64 k ∧ Hid (l = (List.range k).filter (fun v => M v v)) ∧ l.length ≤ k ∧ Fr0 W wr ∧ wr.ownsRow W.heap.size 3 1 v3 l.length (ints l)) (fun _ v12 _ => n - (intOf v12).toNat)
  case atStart => exact ⟨0, [], by omega, rfl, Lib.hid rfl, by simp, Fr.refl _ _, own_nil _ _ _ _⟩
  case round =>
    obtain ⟨k, l, hk, rfl, HL, hll, hf, ho⟩ := hrel
    by_cases hlt : k < n
    · have HD := Lib.hid (Leads_is (HC.out.fr0 hf) k k)
      have e : leadsI n M k k = M k k := by simp [leadsI, hasI, hlt]
      rw [e] at HD
      clear e
      have hrs := range_succ_filter (fun v => M v v) k
      rw [← HL.out] at hrs
      have hsz := hf.size
      obtain ⟨A3, c3, e3⟩ := own_form ho
      subst e3
      cases hm : M k k with
      | false =>
        rw [hm] at HD
        simp only [hm] at hrs
        have HR := Lib.hid hrs
        clear hrs
        go_wp2_with (go_at_call 23; refine (HD.out).mono ?_; rintro e w' ⟨rfl, rfl⟩)
        go_roundw
        case rel => exact ⟨k + 1, l, by omega, by go_num, Lib.hid (by rw [HR.out]; simp), by omega, hf, ho⟩
        case measure => simp [intOf]; omega
      | true =>
        rw [hm] at HD
        simp only [hm] at hrs
        have HR := Lib.hid hrs
        clear hrs
        go_wp2_with (first | (go_at_call 23; refine (HD.out).mono ?_; rintro e w' ⟨rfl, rfl⟩) | (at_builtin; refine wpList_append_own _ rfl _ _ 37 rfl W.heap.size 3 i0 (.int .i64 0) 1 8 Tryd.underlying37 hi hz0 hz1 hz2 rfl (by decide) _ _ _ rfl (own_fr0 ho (fr_alloc _ _ _)) _ 1 1 [.int .i64 (k : Int)] rfl rfl (cell_one_new _ _ _) (by simp [Value.oneCell']) (by unfold maxLen; omega) (by omega) (by simp; omega) ?_; intro v' w1 hown' hgrow _))
        go_roundw
        case rel =>
          rw [ints_snoc] at hown'
          refine ⟨k + 1, l ++ [k], by omega, by go_num, Lib.hid (by rw [HR.out]; simp), by simp; omega, ?_, by simpa using hown'⟩
          exact (hf.alloc _).trans (append_fr0 (own_fr0 ho (fr_alloc _ _ _)) hgrow) (fun j hj e => own_old ho hj e)
        case measure => simp [intOf]; omega
    · have hke : k = n := by omega
      obtain ⟨A3, c3, e3⟩ := own_form ho
      subst e3
      go_wp2_with fail
      go_ret
      have e : elems n (fun v => M v v) = l := by rw [HL.out, hke]; rfl
      rw [e]
      exact ⟨_, rfl, hf, ho⟩
end Go.Proofs.YtdihpobegoihkaaDoor
