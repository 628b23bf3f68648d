/- The document's locks: whether one can be held; asking and freeing. -/
import Derived.Test.YtekigojbkhjdbaaRef39
namespace Go.Proofs.Ytekigojbkhjdbaa
set_option linter.all false
open Go.RowKit
set_option maxRecDepth 100000

theorem info_lock : (Try.prog.info? 95).map (fun i => (i.zero, i.size, i.bytes)) = some (some (.agg #[.int .i64 0, .int .i64 0, .int .i64 0]), 3, 24) := by kernel_rfl
theorem len_zero {α : Type} (l : List α) : (((l.length : Nat) : Int) == 0) = l.isEmpty := by cases l <;> simp; omega
theorem Can39_is {W : World} {A : Option Addr} {c : Nat} {l : List LockI} (h : LocksAt W A l) (hsm : l.length ≤ 1000000) (id key mode : Int) :
    Calls Try.prog 59 #[.slice A l.length c, .int .i64 id, .int .i64 key, .int .i64 mode] W (Rets (BoolPost (canL l id key mode) W)) := by
  have HB := Lib.hid (Blocks39_is (c := c) h hsm id key mode)
  have hz := len_zero (blkL l id key mode)
  have HC := Lib.hid (show canL l id key mode = (isMode mode && (blkL l id key mode).isEmpty) from rfl)
  generalize canL l id key mode = cb at HC ⊢
  generalize blkL l id key mode = bl at HB HC hz
  clear h
  cases m1 : (mode == 1) with
  | true =>
    have hm : isMode mode = true := by simp [isMode, m1]
    rw [hm, ← hz] at HC
    clear hm hz
    go_enter Try.func59, Try.ntmps59
    go_wp2_with (go_at_call 25; refine (HB.out).mono ?_; rintro e w' ⟨v, rfl, hf2, ho2⟩; obtain ⟨A2, c2, rfl⟩ := own_form ho2)
    go_ret
    refine ⟨_, rfl, ?_, hf2⟩
    rw [HC.out]; simp
  | false =>
    have n1 : ¬ mode = 1 := by simpa using m1
    cases m2 : (mode == 2) with
    | true =>
      have hm : isMode mode = true := by simp [isMode, m2]
      rw [hm, ← hz] at HC
      clear hm hz
      go_enter Try.func59, Try.ntmps59
      go_wp2_with (go_at_call 25; refine (HB.out).mono ?_; rintro e w' ⟨v, rfl, hf2, ho2⟩; obtain ⟨A2, c2, rfl⟩ := own_form ho2)
      go_ret
      refine ⟨_, rfl, ?_, hf2⟩
      rw [HC.out]; simp
    | false =>
      have hm : isMode mode = false := by simp [isMode, m1, m2]
      have n2 : ¬ mode = 2 := by simpa using m2
      rw [hm] at HC
      clear hm hz
      go_enter Try.func59, Try.ntmps59
      go_wp2_with fail
      go_ret
      refine ⟨_, rfl, ?_, Fr.refl _ _⟩
      rw [HC.out]; rfl
def LocksPost (W : World) (l : List LockI) (v : Value) (w' : World) : Prop := ∃ A c, v = .slice A l.length c ∧ Fr0 W w' ∧ LocksAt w' A l
def AskPost (W : World) (l : List LockI) (b : Bool) (v : Value) (w' : World) : Prop := ∃ A c, v = .tuple #[.slice A l.length c, .bool b] ∧ Fr0 W w' ∧ LocksAt w' A l
set_option maxHeartbeats 2000000 in
theorem Free39_is {W : World} {A : Option Addr} {c : Nat} {l : List LockI} (h : LocksAt W A l) (hsm : l.length ≤ 1000000) (id : Int) :
    Calls Try.prog 58 #[.slice A l.length c, .int .i64 id] W (Rets (LocksPost W (freeL l id))) := by
  obtain ⟨i0, hi, hz0, hz1, hz2⟩ := info_parts info_lock
  have HX := Lib.hid h
  clear h
  go_enter Try.func58, Try.ntmps58
  go_wp2_with fail
  go_loopw [5, 6] (fun v5 v6 wr => ∃ (k : Nat) (r : List LockI), k ≤ l.length ∧ v6 = .int .i64 k ∧ Hid (r = freeL (l.take k) id) ∧ r.length ≤ k ∧ Fr0 W wr ∧ wr.ownsRow W.heap.size 95 3 v5 r.length (tupCells lockE r)) (fun _ v6 _ => l.length - (intOf v6).toNat)
  case atStart => exact ⟨0, [], by omega, rfl, Lib.hid rfl, by simp, Fr.refl _ _, own_nil _ _ _ _⟩
  case round =>
    obtain ⟨k, r, hk, rfl, HR, hrl, hf, ho⟩ := hrel
    have hsz := hf.size
    obtain ⟨A3, c3, e3⟩ := own_form ho
    subst e3
    by_cases hlt : k < l.length
    · obtain ⟨b, o, x, rfl, he, c0, c1, c2⟩ := lock_at (HX.out.fr0 hf) hlt
      have hlt' : (k : Int) < (l.length : Int) := by omega
      have hT := filter_take l (fun x => x.i != id) k he
      rw [show (l.take k).filter (fun x => x.i != id) = r from HR.out.symm] at hT
      by_cases h1 : x.i = id
      · have d1 : (x.i != id) = false := by simp [h1]
        rw [if_neg (by simp [h1]), List.append_nil] at hT
        have HT := Lib.hid hT
        clear hT h1
        go_wp2_with fail
        go_roundw
        case rel => exact ⟨k + 1, r, by omega, by go_num, Lib.hid HT.out.symm, by omega, hf, ho⟩
        case measure => simp [intOf]; omega
      · have d1 : (x.i != id) = true := by simp [h1]
        rw [if_pos (by simp [h1])] at hT
        have HT := Lib.hid hT
        clear hT
        go_wp2_with (at_builtin; refine wpList_append_own _ rfl _ _ 33 rfl W.heap.size 95 i0 (.agg #[.int .i64 0, .int .i64 0, .int .i64 0]) 3 24 Try.underlying33 hi hz0 hz1 hz2 rfl (by decide) _ _ _ rfl (own_fr0 ho (fr_alloc _ _ _)) _ 1 1 (intsI (lockE x)) rfl rfl (cells_new _ (intsI (lockE x)) _) intsI_get (by unfold maxLen; omega) (by omega) (by simp; omega) ?_; intro v' w2 hown' hgrow _)
        go_roundw
        case rel =>
          rw [← tupCells_snoc] at hown'
          exact ⟨k + 1, r ++ [x], by omega, by go_num, Lib.hid HT.out.symm, by simp; omega, (hf.alloc _).trans (append_fr0 (own_fr0 ho (fr_alloc _ _ _)) hgrow) (fun j hj e => own_old ho hj e), by simpa using hown'⟩
        case measure => simp [intOf]; omega
    · have hke : k = l.length := by omega
      have hR := HR.out
      rw [hke, List.take_of_length_le (Nat.le_refl _)] at hR
      clear HR
      subst hR
      go_wp2_with fail
      go_ret
      exact ⟨_, rfl, A3, c3, rfl, hf, own_tups lockE_len ho (by omega)⟩
set_option maxHeartbeats 4000000 in
theorem Ask39_is {W : World} {A : Option Addr} {c : Nat} {l : List LockI} (h : LocksAt W A l) (hsm : l.length ≤ 1000000) (id key mode : Int) :
    Calls Try.prog 57 #[.slice A l.length c, .int .i64 id, .int .i64 key, .int .i64 mode] W (Rets (AskPost W (askL l id key mode) (canL l id key mode))) := by
  obtain ⟨i0, hi, hz0, hz1, hz2⟩ := info_parts info_lock
  have HX := Lib.hid h
  have HC := Lib.hid (Can39_is (c := c) h hsm id key mode)
  have HA := Lib.hid (show askL l id key mode = if canL l id key mode then (if holdsL l id key = 2 then l else l.filter (fun x => !hitL id key x) ++ [⟨id, key, mode⟩]) else l from rfl)
  generalize askL l id key mode = al at HA ⊢
  generalize canL l id key mode = cb at HC HA ⊢
  clear h
  cases cb with
  | false =>
    have e : al = l := HA.out
    subst e
    go_enter Try.func57, Try.ntmps57
    go_wp2_with (go_at_call 59; refine (HC.out).mono ?_; rintro e w1 ⟨v, rfl, rfl, hf1⟩)
    go_ret2
    exact ⟨_, rfl, A, c, rfl, hf1, HX.out.fr0 hf1⟩
  | true =>
    have HH := Lib.hid (fun w' (f : Fr0 W w') => Holds39_is (c := c) (HX.out.fr0 f) hsm id key)
    have hA := HA.out
    rw [if_pos rfl] at hA
    clear HA
    generalize holdsL l id key = hv at HH hA
    by_cases h2 : hv = 2
    · rw [if_pos h2] at hA
      subst hA
      subst h2
      go_enter Try.func57, Try.ntmps57
      go_wp2_with (first | (go_at_call 20; refine (HH.out _ hf1).mono ?_; rintro e w2 ⟨v, rfl, rfl, hf2⟩) | (go_at_call 59; refine (HC.out).mono ?_; rintro e w1 ⟨v, rfl, rfl, hf1⟩))
      go_ret2
      exact ⟨_, rfl, A, c, rfl, hf1.trans0 hf2, HX.out.fr0 (hf1.trans0 hf2)⟩
    · rw [if_neg h2] at hA
      have HA := Lib.hid hA
      have d2 : (hv == 2) = false := by simpa using h2
      clear hA
      go_enter Try.func57, Try.ntmps57
      go_wp2_with (first | (go_at_call 20; refine (HH.out _ hf1).mono ?_; rintro e w2 ⟨v, rfl, rfl, hf2⟩) | (go_at_call 59; refine (HC.out).mono ?_; rintro e w1 ⟨v, rfl, rfl, hf1⟩))
      have hfW : Fr0 W w2 := hf1.trans0 hf2
      have hX2 := HX.out.fr0 hfW
      clear HC HH
      go_loopw [10, 11] (fun v10 v11 wr => ∃ (k : Nat) (r : List LockI), k ≤ l.length ∧ v11 = .int .i64 k ∧ Hid (r = (l.take k).filter (fun x => !hitL id key x)) ∧ r.length ≤ k ∧ Fr0 w2 wr ∧ wr.ownsRow w2.heap.size 95 3 v10 r.length (tupCells lockE r)) (fun _ v11 _ => l.length - (intOf v11).toNat)
      case atStart => exact ⟨0, [], by omega, rfl, Lib.hid rfl, by simp, Fr.refl _ _, own_nil _ _ _ _⟩
      case round =>
        obtain ⟨k, r, hk, rfl, HR, hrl, hf, ho⟩ := hrel
        have hsz := hf.size
        obtain ⟨A3, c3, e3⟩ := own_form ho
        subst e3
        by_cases hlt : k < l.length
        · obtain ⟨b, o, x, rfl, he, c0, c1, c2⟩ := lock_at (hX2.fr0 hf) hlt
          have hlt' : (k : Int) < (l.length : Int) := by omega
          have hT := filter_take l (fun x => !hitL id key x) k he
          rw [← HR.out] at hT
          by_cases h1 : x.i = id
          · have d1 : (x.i != id) = false := by simp [h1]
            by_cases h3 : x.k = key
            · have d3 : (x.k != key) = false := by simp [h3]
              rw [if_neg (by simp [hitL, h1, h3]), List.append_nil] at hT
              have HT := Lib.hid hT
              clear hT h1 h3
              go_wp2_with fail
              go_roundw
              case rel => exact ⟨k + 1, r, by omega, by go_num, Lib.hid HT.out.symm, by omega, hf, ho⟩
              case measure => simp [intOf]; omega
            · have d3 : (x.k != key) = true := by simp [h3]
              rw [if_pos (by simp [hitL, h3])] at hT
              have HT := Lib.hid hT
              clear hT h1
              go_wp2_with (at_builtin; refine wpList_append_own _ rfl _ _ 33 rfl w2.heap.size 95 i0 (.agg #[.int .i64 0, .int .i64 0, .int .i64 0]) 3 24 Try.underlying33 hi hz0 hz1 hz2 rfl (by decide) _ _ _ rfl (own_fr0 ho (fr_alloc _ _ _)) _ 1 1 (intsI (lockE x)) rfl rfl (cells_new _ (intsI (lockE x)) _) intsI_get (by unfold maxLen; omega) (by omega) (by simp; omega) ?_; intro v' w4 hown' hgrow _)
              go_roundw
              case rel =>
                rw [← tupCells_snoc] at hown'
                exact ⟨k + 1, r ++ [x], by omega, by go_num, Lib.hid HT.out.symm, by simp; omega, (hf.alloc _).trans (append_fr0 (own_fr0 ho (fr_alloc _ _ _)) hgrow) (fun j hj e => own_old ho hj e), by simpa using hown'⟩
              case measure => simp [intOf]; omega
          · have d1 : (x.i != id) = true := by simp [h1]
            rw [if_pos (by simp [hitL, h1])] at hT
            have HT := Lib.hid hT
            clear hT
            go_wp2_with (at_builtin; refine wpList_append_own _ rfl _ _ 33 rfl w2.heap.size 95 i0 (.agg #[.int .i64 0, .int .i64 0, .int .i64 0]) 3 24 Try.underlying33 hi hz0 hz1 hz2 rfl (by decide) _ _ _ rfl (own_fr0 ho (fr_alloc _ _ _)) _ 1 1 (intsI (lockE x)) rfl rfl (cells_new _ (intsI (lockE x)) _) intsI_get (by unfold maxLen; omega) (by omega) (by simp; omega) ?_; intro v' w4 hown' hgrow _)
            go_roundw
            case rel =>
              rw [← tupCells_snoc] at hown'
              exact ⟨k + 1, r ++ [x], by omega, by go_num, Lib.hid HT.out.symm, by simp; omega, (hf.alloc _).trans (append_fr0 (own_fr0 ho (fr_alloc _ _ _)) hgrow) (fun j hj e => own_old ho hj e), by simpa using hown'⟩
            case measure => simp [intOf]; omega
        · have hke : k = l.length := by omega
          have hR := HR.out
          rw [hke, List.take_of_length_le (Nat.le_refl _)] at hR
          rw [← hR] at HA
          clear HR hR
          go_wp2_with (at_builtin; refine wpList_append_own _ rfl _ _ 33 rfl w2.heap.size 95 i0 (.agg #[.int .i64 0, .int .i64 0, .int .i64 0]) 3 24 Try.underlying33 hi hz0 hz1 hz2 rfl (by decide) _ _ _ rfl (own_fr0 ho (fr_alloc _ _ _)) _ 1 1 (intsI (lockE ⟨id, key, mode⟩)) rfl rfl (cells_new _ (intsI (lockE ⟨id, key, mode⟩)) _) intsI_get (by unfold maxLen; omega) (by omega) (by simp; omega) ?_; intro v' w4 hown' hgrow _)
          go_ret2
          rw [← tupCells_snoc] at hown'
          obtain ⟨A4, c4, e4⟩ := own_form hown'
          subst e4
          have hfin : Fr0 w2 w4 := (hf.alloc _).trans (append_fr0 (own_fr0 ho (fr_alloc _ _ _)) hgrow) (fun j hj e => own_old ho hj e)
          rw [HA.out]
          exact ⟨_, rfl, A4, c4, by simp, hfW.trans0 hfin, own_tups (c := c4) (B := w2.heap.size) (e := 95) lockE_len (by simpa using hown') (by simp; omega)⟩
end Go.Proofs.Ytekigojbkhjdbaa
