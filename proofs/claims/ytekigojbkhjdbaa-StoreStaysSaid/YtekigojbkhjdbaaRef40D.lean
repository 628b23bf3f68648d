/- The document's store: aborting, committing. -/
import Derived.Test.YtekigojbkhjdbaaRef40C
namespace Go.Proofs.Ytekigojbkhjdbaa
set_option linter.all false
open Go.RowKit
set_option maxRecDepth 100000

def abortP (id : Int) (x : V4I) : Bool := x.i != id || decide (0 < x.s)
def abortL (l : List V4I) (id : Int) : List V4I := selV (abortP id) (fun x => x) l
set_option maxHeartbeats 4000000 in
theorem Abort40_is {W : World} {A : Option Addr} {c : Nat} {l : List V4I} (h : V4At W A l) (hsm : l.length ≤ 100000) (now id : Int) :
    Calls Try.prog 67 #[.agg #[.slice A l.length c, .int .i64 now], .int .i64 id] W (Rets (StPost W (abortL l id) now)) := by
  obtain ⟨i0, hi, hz0, hz1, hz2⟩ := info_parts info_v4
  obtain ⟨hf1, hs1, hA1, hB1⟩ := W0_facts W (.slice A l.length c) now
  have HW := Lib.hid (show (W.alloc (.cells #[.slice A l.length c, .int .i64 now] 58)).alloc (.cells #[.slice none 0 0, .int .i64 0] 58) = W0 W (.slice A l.length c) now from rfl)
  generalize W0 W (.slice A l.length c) now = w1 at hf1 hs1 hA1 hB1 HW
  have HX := Lib.hid (h.fr0 hf1)
  have HA1 := Lib.hid hA1
  have HB1 := Lib.hid hB1
  clear h hA1 hB1
  go_enter Try.func67, Try.ntmps67
  go_wp2_with fail
  rw [HW.out]
  clear HW
  go_loopw [5, 6] (fun v5 v6 wr => ∃ (k : Nat) (r : List V4I), k ≤ l.length ∧ v6 = .int .i64 k ∧ Hid (r = selV (abortP id) (fun x => x) (l.take k)) ∧ r.length ≤ k ∧ Fr0 w1 wr ∧ wr.ownsRow w1.heap.size 109 4 v5 r.length (tupCells v4E r)) (fun _ v6 _ => l.length - (intOf v6).toNat)
  case atStart => exact ⟨0, [], by omega, rfl, Lib.hid rfl, by simp, Fr.refl _ _, own_nil _ _ _ _⟩
  case round =>
    obtain ⟨k, r, hk, rfl, HR, hrl, hf, ho⟩ := hrel
    have hsz := hf.size
    have hA := HA1.out.fr0 hf
    have y1 := hA.c0
    obtain ⟨A3, c3, e3⟩ := own_form ho
    subst e3
    by_cases hlt : k < l.length
    · obtain ⟨b, o, x, rfl, he, c0, c1, c2, c4⟩ := v4_at (HX.out.fr0 hf) hlt
      have hlt' : (k : Int) < (l.length : Int) := by omega
      have hT := selV_take (abortP id) (fun x => x) l k he
      rw [← HR.out] at hT
      by_cases h1 : x.i = id
      · have d1 : (x.i != id) = false := by simp [h1]
        by_cases h2 : 0 < x.s
        · have hin : abortP id x = true := by simp [abortP, h2]
          clear h1
          rw [if_pos hin] at hT
          have HT := Lib.hid hT
          clear hT hin
          go_wp2_with (at_builtin; refine wpList_append_own _ rfl _ _ 56 rfl w1.heap.size 109 i0 (.agg #[.int .i64 0, .int .i64 0, .int .i64 0, .int .i64 0]) 4 32 Try.underlying56 hi hz0 hz1 hz2 rfl (by decide) _ _ _ rfl (own_fr0 ho (fr_alloc _ _ _)) _ 1 1 (intsI (v4E x)) rfl rfl (cells_new _ (intsI (v4E x)) _) intsI_get (by unfold maxLen; omega) (by omega) (by simp; omega) ?_; intro v' w2 hown' hgrow _)
          go_roundw
          case rel =>
            rw [← tupCells_snoc] at hown'
            exact ⟨k + 1, r ++ [x], by omega, by go_num, Lib.hid HT.out.symm, by simp; omega, (hf.alloc _).trans (append_fr0 (own_fr0 ho (fr_alloc _ _ _)) hgrow) (fun j hj e => own_old ho hj e), by simpa using hown'⟩
          case measure => simp [intOf]; omega
        · have d2 : decide (0 < x.s) = false := by simpa using h2
          have hin : abortP id x = false := by simp [abortP, h1, h2]
          rw [if_neg (by simp [hin]), List.append_nil] at hT
          have HT := Lib.hid hT
          clear hT hin
          go_wp2_with fail
          go_roundw
          case rel => exact ⟨k + 1, r, by omega, by go_num, Lib.hid HT.out.symm, by omega, hf, ho⟩
          case measure => simp [intOf]; omega
      · have d1 : (x.i != id) = true := by simp [h1]
        have hin : abortP id x = true := by simp [abortP, h1]
        rw [if_pos hin] at hT
        have HT := Lib.hid hT
        clear hT hin
        go_wp2_with (at_builtin; refine wpList_append_own _ rfl _ _ 56 rfl w1.heap.size 109 i0 (.agg #[.int .i64 0, .int .i64 0, .int .i64 0, .int .i64 0]) 4 32 Try.underlying56 hi hz0 hz1 hz2 rfl (by decide) _ _ _ rfl (own_fr0 ho (fr_alloc _ _ _)) _ 1 1 (intsI (v4E x)) rfl rfl (cells_new _ (intsI (v4E x)) _) intsI_get (by unfold maxLen; omega) (by omega) (by simp; omega) ?_; intro v' w2 hown' hgrow _)
        go_roundw
        case rel =>
          rw [← tupCells_snoc] at hown'
          exact ⟨k + 1, r ++ [x], by omega, by go_num, Lib.hid HT.out.symm, by simp; omega, (hf.alloc _).trans (append_fr0 (own_fr0 ho (fr_alloc _ _ _)) hgrow) (fun j hj e => own_old ho hj e), by simpa using hown'⟩
        case measure => simp [intOf]; omega
    · have hke : k = l.length := by omega
      have hR := HR.out
      rw [hke, List.take_of_length_le (Nat.le_refl _)] at hR
      clear HR
      have hrr : r = abortL l id := hR
      subst hrr
      clear hR
      have hB := HB1.out.fr0 hf
      have a1 := hA.c1
      have f0 := hA.fz 0
      have hA4 := hA.set0 (.slice A3 (abortL l id).length c3)
      have b0 := hA4.c0
      have b1 := hA4.c1
      have hB4 := hB.fr (S := fun k => k = W.heap.size) (fr_setCell wr ⟨W.heap.size, 0, none⟩ (.slice A3 (abortL l id).length c3) (fun _ => rfl)) (show ¬ W.heap.size + 1 = W.heap.size by omega)
      have g0 := hB4.c0
      have g1 := hB4.fz 0
      have g2 := (hB4.set0 (.slice A3 (abortL l id).length c3)).c1
      have g3 := (hB4.set0 (.slice A3 (abortL l id).length c3)).fz 1
      have g4 := ((hB4.set0 (.slice A3 (abortL l id).length c3)).set1 (.int .i64 now)).c0
      have g5 := ((hB4.set0 (.slice A3 (abortL l id).length c3)).set1 (.int .i64 now)).c1
      go_wp2_with fail
      have hown2 : wr.ownsRow (W.heap.size + 2) 109 4 (.slice A3 (abortL l id).length c3) (abortL l id).length (tupCells v4E (abortL l id)) := by rw [← hs1]; exact ho
      obtain ⟨e1, e2⟩ := st_end (now := now) (hf1.trans0 hf) hown2
      refine bodyPost_ret (v := stV A3 (abortL l id).length c3 now) ?_ rfl ?_
      · simp only [results, show Try.f67.results = #[ResultVar.cell 4 58] from rfl]
        go_simp
      · exact ⟨_, rfl, A3, c3, rfl, e1, e2⟩
end Go.Proofs.Ytekigojbkhjdbaa
