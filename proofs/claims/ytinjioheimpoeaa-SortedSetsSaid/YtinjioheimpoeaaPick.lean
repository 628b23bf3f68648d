/- The document's choice of two sets; the part of a vertex. -/
import Derived.Test.YtinjioheimpoeaaOf
import Derived.Test.YtinjioheimpoeaaAppRow
namespace Go.Proofs.Ytinjioheimpoeaa
set_option linter.all false
open Go.RowKit
set_option maxRecDepth 100000

def pickB (one both other x y : Bool) : Bool := x && y && both || x && !y && one || !x && y && other
def pickI (a b : List Int) (one both other : Bool) : List Int := (ofI (a ++ b)).filter (fun k => pickB one both other (decide (k ∈ a)) (decide (k ∈ b)))
theorem take_succ_filter (l : List Int) (f : Int → Bool) (k : Nat) (h : k < l.length) : (l.take (k + 1)).filter f = (l.take k).filter f ++ (if f (l.getD k 0) = true then [l.getD k 0] else []) := by
  rw [take_succ_I l k h, List.filter_append, List.filter_cons, List.filter_nil]
set_option maxHeartbeats 4000000 in
theorem Pick_is {W : World} {A B : Option Addr} {c d : Nat} {xs ys : List Int} (hx : IntsAt W A xs) (hpx : Plain A xs.length c) (hy : IntsAt W B ys) (hpy : Plain B ys.length d) (hsm : xs.length + ys.length ≤ 10000000) (one both other : Bool) :
    Calls Try.prog 22 #[.slice A xs.length c, .slice B ys.length d, .bool one, .bool both, .bool other] W (Rets (IListPost W (pickI xs ys one both other))) := by
  obtain ⟨i0, hi, hz0, hz1, hz2⟩ := info_parts info_int
  have HX := Lib.hid hx
  have HY := Lib.hid hy
  have HPX := Lib.hid hpx
  have HPY := Lib.hid hpy
  have hfl : Hid (pickI xs ys one both other = (ofI (xs ++ ys)).filter (fun k => pickB one both other (decide (k ∈ xs)) (decide (k ∈ ys)))) := Lib.hid rfl
  have hol := len_ofI (xs ++ ys)
  have hol2 : (ofI (xs ++ ys)).length ≤ 10000000 := by rw [List.length_append] at hol; omega
  clear hol
  have hb1 : xs.length * 8 ≤ 140737488355328 := by omega
  have hb2 : (xs.length + ys.length) * 8 ≤ 140737488355328 := by omega
  have hb3 : (xs ++ ys).length ≤ 140737488355328 := by rw [List.length_append]; omega
  have hb4 : (xs ++ ys).length ≤ 10000000 := by rw [List.length_append]; omega
  generalize hzs : xs ++ ys = zs at hfl hol2 hb3 hb4
  have HZ := Lib.hid hzs
  clear hzs
  have HB3 := Lib.hid hb3
  have HB4 := Lib.hid hb4
  clear hx hy hpx hpy hb3 hb4
  go_enter Try.func22, Try.ntmps22
  go_wp2_with (first
    | (at_builtin; refine wpList_append_lit (B := W.heap.size) (ys := xs) (A := A) (c := c) (N := W.heap.size) rfl (.tmp 16) (.tmp 17) rfl rfl rfl HPX.out hb1 (World.alloc_heap_new _ _) (Nat.le_refl _) (HX.out.fr0 (fr_alloc _ _ _)) ?_; intro v1 w1 hown1 hf1; have hF1 : Fr0 W w1 := Fr.trans0 (fr_alloc _ _ _) hf1)
    | (at_builtin; refine wpList_append_ints (B := W.heap.size) (xs := xs) (ys := ys) (A := B) (c := d) (v := v1) rfl (.tmp 18) (.tmp 19) rfl rfl rfl HPY.out hb2 hF1.size hown1 (HY.out.fr0 hF1) ?_; intro v2 w2 hown2 hf2; rw [HZ.out] at hown2; have hF2 : Fr0 W w2 := Fr.trans hF1 hf2 (fun j hj e => own_old hown1 hj e); obtain ⟨A2, c2, rfl⟩ := own_form hown2)
    | (go_at_call 23; refine (Of_is (own_intsI hown2 HB3.out) HB4.out).mono ?_; rintro e w3 ⟨v3, rfl, hf3, ho3⟩; obtain ⟨A3, c3, rfl⟩ := own_form ho3))
  have hF3 : Fr0 W w3 := hF2.trans0 hf3
  have hs3 := hF3.size
  generalize hS : ofI zs = S at ho3 hfl hol2
  have HI := Lib.hid (own_intsI ho3 (by omega))
  clear hS hf3 hF2 hown2 hf2 hown1 hf1 hF1 ho3
  go_loopw [12, 13] (fun v12 v13 wr => ∃ k : Nat, k ≤ S.length ∧ v13 = .int .i64 k ∧ Fr0 w3 wr ∧ Hid (wr.ownsRow w3.heap.size 3 1 v12 ((S.take k).filter (fun k => pickB one both other (decide (k ∈ xs)) (decide (k ∈ ys)))).length (intsI ((S.take k).filter (fun k => pickB one both other (decide (k ∈ xs)) (decide (k ∈ ys))))))) (fun _ v13 _ => S.length - (intOf v13).toNat)
  case atStart => exact ⟨0, by omega, rfl, Fr.refl _ _, Lib.hid (own_nil _ _ _ _)⟩
  case round =>
    obtain ⟨k, hk, rfl, hf, HO⟩ := hrel
    have hsz := hf.size
    obtain ⟨A4, c4, e4⟩ := own_form HO.out
    subst e4
    by_cases hlt : k < S.length
    · have hlt' : (k : Int) < (S.length : Int) := by omega
      obtain ⟨q, o, rfl, hc⟩ := (HI.out.fr0 hf).at_ hlt
      have hst := take_succ_filter S (fun k => pickB one both other (decide (k ∈ xs)) (decide (k ∈ ys))) k hlt
      have hfl2 : ((S.take k).filter (fun k => pickB one both other (decide (k ∈ xs)) (decide (k ∈ ys)))).length ≤ k := Nat.le_trans (List.length_filter_le _ _) (by rw [List.length_take]; omega)
      generalize S.getD k 0 = x at hc hst
      have HH1 := Lib.hid (fun w' (f : Fr0 wr w') => Has5_is (c := c) (HX.out.fr0 ((hF3.trans0 hf).trans0 f)) x)
      have HH2 := Lib.hid (fun w' (f : Fr0 wr w') => Has5_is (c := d) (HY.out.fr0 ((hF3.trans0 hf).trans0 f)) x)
      generalize (S.take k).filter (fun k => pickB one both other (decide (k ∈ xs)) (decide (k ∈ ys))) = acc at HO hst hfl2
      generalize decide (x ∈ xs) = x1 at HH1 hst
      generalize decide (x ∈ ys) = x2 at HH2 hst
      have HKS := Lib.hid (show ∀ w', Fr0 wr w' → (Fr0 wr w' ∧ w'.cell? ⟨q, o + k, none⟩ = some (.int .i64 x)) from fun w' f => ⟨f, f.cell hc (fun x => x)⟩)
      have HST := Lib.hid hst
      have hc0 := hc
      clear hst hc
      go_wp2_with fail
      go_region_held_law (fun w' => Fr0 wr w' ∧ w'.cell? ⟨q, o + k, none⟩ = some (.int .i64 x))
        ((refine HKS.out _ ?_; first | exact fr_drew _ _ | assumption | exact And.left (by assumption)))
        (first
          | (go_at_call 26; with_reducible refine (HH1.out _ (And.left (by assumption))).mono ?_; rintro e w' ⟨rfl, rfl⟩)
          | (go_at_call 26; with_reducible refine (HH2.out _ (And.left (by assumption))).mono ?_; rintro e w' ⟨rfl, rfl⟩))
      have hW : Fr0 wr _ := And.left (by assumption)
      have hf7 := hf.trans0 hW
      have hsz7 := hf7.size
      have HO7 := Lib.hid (own_fr0 HO.out hW)
      have hc2 := hW.cell hc0 (fun x => x)
      cases x1 <;> cases x2
      · have hq := HST.out
        rw [show pickB one both other false false = false by simp [pickB]] at hq
        have HS := Lib.hid (by simpa using hq : _ = acc)
        clear hq HST
        go_wp2_with (at_builtin; refine wpList_append_own _ rfl _ _ 22 rfl w3.heap.size 3 i0 (.int .i64 0) 1 8 Try.underlying22 hi hz0 hz1 hz2 rfl (by decide) _ _ _ rfl (own_fr0 HO7.out (fr_alloc _ _ _)) _ 1 1 [.int .i64 x] rfl rfl (cell_one_new _ _ _) (by simp [Value.oneCell']) (by unfold maxLen; omega) (by omega) (by simp; omega) ?_; intro v' w2 hown' hgrow _)
        go_roundw
        case rel => first
          | exact ⟨k + 1, by omega, by go_num, hf7, Lib.hid (by rw [HS.out]; exact HO7.out)⟩
          | exact ⟨k + 1, by omega, by go_num, (hf7.alloc _).trans (append_fr0 (own_fr0 HO7.out (fr_alloc _ _ _)) hgrow) (fun j hj e => own_old HO7.out hj e), Lib.hid (by rw [HS.out]; rw [intsI_snoc] at hown'; simpa using hown')⟩
        case measure => simp [intOf]; omega
      · rw [show pickB one both other false true = other by simp [pickB]] at HST
        cases other
        all_goals
          have hq := HST.out
          first
            | have HS := Lib.hid (by simpa using hq : _ = acc ++ [x])
            | have HS := Lib.hid (by simpa using hq : _ = acc)
          clear hq HST
          go_wp2_with (at_builtin; refine wpList_append_own _ rfl _ _ 22 rfl w3.heap.size 3 i0 (.int .i64 0) 1 8 Try.underlying22 hi hz0 hz1 hz2 rfl (by decide) _ _ _ rfl (own_fr0 HO7.out (fr_alloc _ _ _)) _ 1 1 [.int .i64 x] rfl rfl (cell_one_new _ _ _) (by simp [Value.oneCell']) (by unfold maxLen; omega) (by omega) (by simp; omega) ?_; intro v' w2 hown' hgrow _)
          go_roundw
          case rel => first
            | exact ⟨k + 1, by omega, by go_num, hf7, Lib.hid (by rw [HS.out]; exact HO7.out)⟩
            | exact ⟨k + 1, by omega, by go_num, (hf7.alloc _).trans (append_fr0 (own_fr0 HO7.out (fr_alloc _ _ _)) hgrow) (fun j hj e => own_old HO7.out hj e), Lib.hid (by rw [HS.out]; rw [intsI_snoc] at hown'; simpa using hown')⟩
          case measure => simp [intOf]; omega
      · rw [show pickB one both other true false = one by simp [pickB]] at HST
        cases one
        all_goals
          have hq := HST.out
          first
            | have HS := Lib.hid (by simpa using hq : _ = acc ++ [x])
            | have HS := Lib.hid (by simpa using hq : _ = acc)
          clear hq HST
          go_wp2_with (at_builtin; refine wpList_append_own _ rfl _ _ 22 rfl w3.heap.size 3 i0 (.int .i64 0) 1 8 Try.underlying22 hi hz0 hz1 hz2 rfl (by decide) _ _ _ rfl (own_fr0 HO7.out (fr_alloc _ _ _)) _ 1 1 [.int .i64 x] rfl rfl (cell_one_new _ _ _) (by simp [Value.oneCell']) (by unfold maxLen; omega) (by omega) (by simp; omega) ?_; intro v' w2 hown' hgrow _)
          go_roundw
          case rel => first
            | exact ⟨k + 1, by omega, by go_num, hf7, Lib.hid (by rw [HS.out]; exact HO7.out)⟩
            | exact ⟨k + 1, by omega, by go_num, (hf7.alloc _).trans (append_fr0 (own_fr0 HO7.out (fr_alloc _ _ _)) hgrow) (fun j hj e => own_old HO7.out hj e), Lib.hid (by rw [HS.out]; rw [intsI_snoc] at hown'; simpa using hown')⟩
          case measure => simp [intOf]; omega
      · rw [show pickB one both other true true = both by simp [pickB]] at HST
        cases both
        all_goals
          have hq := HST.out
          first
            | have HS := Lib.hid (by simpa using hq : _ = acc ++ [x])
            | have HS := Lib.hid (by simpa using hq : _ = acc)
          clear hq HST
          go_wp2_with (at_builtin; refine wpList_append_own _ rfl _ _ 22 rfl w3.heap.size 3 i0 (.int .i64 0) 1 8 Try.underlying22 hi hz0 hz1 hz2 rfl (by decide) _ _ _ rfl (own_fr0 HO7.out (fr_alloc _ _ _)) _ 1 1 [.int .i64 x] rfl rfl (cell_one_new _ _ _) (by simp [Value.oneCell']) (by unfold maxLen; omega) (by omega) (by simp; omega) ?_; intro v' w2 hown' hgrow _)
          go_roundw
          case rel => first
            | exact ⟨k + 1, by omega, by go_num, hf7, Lib.hid (by rw [HS.out]; exact HO7.out)⟩
            | exact ⟨k + 1, by omega, by go_num, (hf7.alloc _).trans (append_fr0 (own_fr0 HO7.out (fr_alloc _ _ _)) hgrow) (fun j hj e => own_old HO7.out hj e), Lib.hid (by rw [HS.out]; rw [intsI_snoc] at hown'; simpa using hown')⟩
          case measure => simp [intOf]; omega
    · have hke : k = S.length := by omega
      subst hke
      have ho := HO.out
      rw [List.take_of_length_le (Nat.le_refl _)] at ho
      rw [List.take_of_length_le (Nat.le_refl _)]
      go_wp2_with fail
      go_ret
      rw [hfl.out]
      exact ⟨_, rfl, hF3.trans0 hf, ho.mono hs3⟩
end Go.Proofs.Ytinjioheimpoeaa
