/- The document's store: what is seen, all there is, what was changed, what is pending. -/
import Derived.Test.YtekigojbkhjdbaaTups
import Derived.Test.YtekigojbkhjdbaaOf
namespace Go.Proofs.Ytekigojbkhjdbaa
set_option linter.all false
open Go.RowKit
set_option maxRecDepth 100000

structure V4I where
  i : Int
  k : Int
  v : Int
  s : Int
  deriving DecidableEq
def v4E (x : V4I) : List Int := [x.i, x.k, x.v, x.s]
theorem v4E_len (x : V4I) : (v4E x).length = 4 := rfl
abbrev V4At (W : World) (A : Option Addr) (l : List V4I) : Prop := TupsAt v4E 4 W A l
theorem v4_at {W : World} {A : Option Addr} {l : List V4I} (h : V4At W A l) {k : Nat} (hk : k < l.length) : ∃ b o x, A = some ⟨b, o, none⟩ ∧ l.take (k + 1) = l.take k ++ [x] ∧
    W.cell? ⟨b, o + k * 4, none⟩ = some (.int .i64 x.i) ∧ W.cell? ⟨b, o + k * 4 + 1, none⟩ = some (.int .i64 x.k) ∧ W.cell? ⟨b, o + k * 4 + 2, none⟩ = some (.int .i64 x.v) ∧ W.cell? ⟨b, o + k * 4 + 3, none⟩ = some (.int .i64 x.s) := by
  obtain ⟨b, o, e, hc⟩ := h.at_ hk
  exact ⟨b, o, l[k], e, take_succ_T l k hk, hc 0 (by omega), hc 1 (by omega), hc 2 (by omega), hc 3 (by omega)⟩
theorem two_cells (W : World) (u v : Value) (t : Nat) : (W.alloc (.cells #[u, v] t)).cell? ⟨W.heap.size, 0, none⟩ = some u ∧ (W.alloc (.cells #[u, v] t)).cell? ⟨W.heap.size, 1, none⟩ = some v := by
  have := World.alloc_heap_new W (.cells #[u, v] t)
  constructor <;> (simp only [World.cell?]; rw [this]; rfl)
theorem cells_newN (w : World) (cs : List Value) (t : Nat) {N : Nat} (hN : w.heap.size = N) : ∀ j u, cs[j]? = some u → (w.alloc (.cells cs.toArray t)).cell? ((⟨N, 0, none⟩ : Addr).add j) = some u := by
  subst hN; exact cells_new w cs t
/-- Those for which p holds, by f. -/
def selV {β : Type} (p : V4I → Bool) (f : V4I → β) (l : List V4I) : List β := (l.filter p).map f
theorem selV_take {β : Type} (p : V4I → Bool) (f : V4I → β) (l : List V4I) (k : Nat) {x : V4I} (e : l.take (k + 1) = l.take k ++ [x]) : selV p f (l.take (k + 1)) = selV p f (l.take k) ++ (if p x then [f x] else []) := by
  rw [e, selV, List.filter_append, List.map_append]
  by_cases h : p x = true <;> simp [selV, h]
theorem selV_len {β : Type} (p : V4I → Bool) (f : V4I → β) (l : List V4I) : (selV p f l).length ≤ l.length := by simp [selV, List.length_filter_le]
def seenP (id key upto : Int) (x : V4I) : Bool := x.k == key && (decide (0 < x.s) && decide (x.s ≤ upto) || x.s == 0 && x.i == id)
def keyP (key : Int) (x : V4I) : Bool := x.k == key
def chgP (key since : Int) (x : V4I) : Bool := x.k == key && decide (0 < x.s) && decide (since < x.s)
def penP (id : Int) (x : V4I) : Bool := x.i == id && x.s == 0

theorem heap_lt_of_cell {w : World} {b o : Nat} {v : Value} (h : w.cell? ⟨b, o, none⟩ = some v) : b < w.heap.size := by
  by_cases hl : b < w.heap.size
  · exact hl
  · rw [World.cell?, Array.getElem?_eq_none (by simpa using hl)] at h; cases h

set_option maxHeartbeats 4000000 in
theorem Seen40_is {W : World} {A : Option Addr} {c : Nat} {l : List V4I} (h : V4At W A l) (hsm : l.length ≤ 100000) (now id key upto : Int) :
    Calls Try.prog 32 #[.agg #[.slice A l.length c, .int .i64 now], .int .i64 id, .int .i64 key, .int .i64 upto] W (Rets (IListPost W (selV (seenP id key upto) (fun x => x.v) l))) := by
  obtain ⟨i0, hi, hz0, hz1, hz2⟩ := info_parts info_int
  obtain ⟨w1, hw1⟩ : ∃ w1, w1 = W.alloc (.cells #[.slice A l.length c, .int .i64 now] 58) := ⟨_, rfl⟩
  have hf1 : Fr0 W w1 := hw1 ▸ fr_alloc _ _ _
  have hx := two_cells W (.slice A l.length c) (.int .i64 now) 58
  rw [← hw1] at hx
  have X1 := Lib.hid hx.1
  have HX := Lib.hid (h.fr0 hf1)
  clear h hx
  go_enter Try.func32, Try.ntmps32
  go_wp2_with fail
  rw [← hw1]
  clear hw1
  go_loopw [9, 10] (fun v5 v6 wr => ∃ (k : Nat) (r : List Int), k ≤ l.length ∧ v6 = .int .i64 k ∧ Hid (r = selV (seenP id key upto) (fun x => x.v) (l.take k)) ∧ r.length ≤ k ∧ Fr0 w1 wr ∧ wr.ownsRow w1.heap.size 3 1 v5 r.length (intsI r)) (fun _ v6 _ => l.length - (intOf v6).toNat)
  case atStart => exact ⟨0, [], by omega, rfl, Lib.hid rfl, by simp, Fr.refl _ _, own_nil _ _ _ _⟩
  case round =>
    obtain ⟨k, r, hk, rfl, HR, hrl, hf, ho⟩ := hrel
    have hsz := hf.size
    have y1 := hf.cell X1.out (fun x => x)
    have y1L := heap_lt_of_cell y1
    obtain ⟨A3, c3, e3⟩ := own_form ho
    subst e3
    by_cases hlt : k < l.length
    · obtain ⟨b, o, x, rfl, he, c0, c1, c2, c4⟩ := v4_at (HX.out.fr0 hf) hlt
      have hlt' : (k : Int) < (l.length : Int) := by omega
      have hT := selV_take (seenP id key upto) (fun x => x.v) l k he
      rw [← HR.out] at hT
      by_cases h1 : x.k = key
      · have d1 : (x.k == key) = true := by simpa using h1
        by_cases h2 : 0 < x.s
        · skip
          by_cases h3 : x.s ≤ upto
          · skip
            have hin : seenP id key upto x = true := by simp [seenP, h1, h2, h3]
            rw [if_pos hin] at hT
            have HT := Lib.hid hT
            clear hT hin
            go_wp2_with (at_builtin; refine wpList_append_own _ rfl _ _ 41 rfl w1.heap.size 3 i0 (.int .i64 0) 1 8 Try.underlying41 hi hz0 hz1 hz2 rfl (by decide) _ _ _ rfl (own_fr0 ho ((fr_alloc _ _ _).alloc _)) _ 1 1 [.int .i64 x.v] rfl rfl (cells_newN _ [.int .i64 x.v] _ (by simp)) (by simp [Value.oneCell']) (by unfold maxLen; omega) (by omega) (by simp; omega) ?_; intro v' w2 hown' hgrow _)
            go_roundw
            case rel =>
              rw [intsI_snoc] at hown'
              exact ⟨k + 1, r ++ [x.v], by omega, by go_num, Lib.hid HT.out.symm, by simp; omega, (hf.trans0 ((fr_alloc _ _ _).alloc _)).trans (append_fr0 (own_fr0 ho ((fr_alloc _ _ _).alloc _)) hgrow) (fun j hj e => own_old ho hj e), by simpa using hown'⟩
            case measure => simp [intOf]; omega
          · have d3 : decide (x.s ≤ upto) = false := by simpa using h3
            have z0 : ¬ x.s = 0 := by omega
            have z1 : (x.s == 0) = false := by simpa using z0
            have hin : seenP id key upto x = false := by simp [seenP, h1, h2, h3, z0, z1]
            rw [if_neg (by simp [hin]), List.append_nil] at hT
            have HT := Lib.hid hT
            clear hT hin
            go_wp2_with fail
            go_roundw
            case rel => exact ⟨k + 1, r, by omega, by go_num, Lib.hid HT.out.symm, by omega, hf.trans0 (fr_alloc _ _ _), own_fr0 ho (fr_alloc _ _ _)⟩
            case measure => simp [intOf]; omega
        · have d2 : decide (0 < x.s) = false := by simpa using h2
          by_cases h4 : x.s = 0
          · have d4 : (x.s == 0) = true := by simpa using h4
            by_cases h5 : x.i = id
            · have d5 : (x.i == id) = true := by simpa using h5
              have hin : seenP id key upto x = true := by simp [seenP, h1, h2, h4, h5]
              rw [if_pos hin] at hT
              have HT := Lib.hid hT
              clear hT hin
              go_wp2_with (at_builtin; refine wpList_append_own _ rfl _ _ 41 rfl w1.heap.size 3 i0 (.int .i64 0) 1 8 Try.underlying41 hi hz0 hz1 hz2 rfl (by decide) _ _ _ rfl (own_fr0 ho ((fr_alloc _ _ _).alloc _)) _ 1 1 [.int .i64 x.v] rfl rfl (cells_newN _ [.int .i64 x.v] _ (by simp)) (by simp [Value.oneCell']) (by unfold maxLen; omega) (by omega) (by simp; omega) ?_; intro v' w2 hown' hgrow _)
              go_roundw
              case rel =>
                rw [intsI_snoc] at hown'
                exact ⟨k + 1, r ++ [x.v], by omega, by go_num, Lib.hid HT.out.symm, by simp; omega, (hf.trans0 ((fr_alloc _ _ _).alloc _)).trans (append_fr0 (own_fr0 ho ((fr_alloc _ _ _).alloc _)) hgrow) (fun j hj e => own_old ho hj e), by simpa using hown'⟩
              case measure => simp [intOf]; omega
            · have d5 : (x.i == id) = false := by simpa using h5
              have hin : seenP id key upto x = false := by simp [seenP, h1, h2, h4, h5]
              rw [if_neg (by simp [hin]), List.append_nil] at hT
              have HT := Lib.hid hT
              clear hT hin
              go_wp2_with fail
              go_roundw
              case rel => exact ⟨k + 1, r, by omega, by go_num, Lib.hid HT.out.symm, by omega, hf.trans0 (fr_alloc _ _ _), own_fr0 ho (fr_alloc _ _ _)⟩
              case measure => simp [intOf]; omega
          · have d4 : (x.s == 0) = false := by simpa using h4
            have hin : seenP id key upto x = false := by simp [seenP, h1, h2, h4]
            rw [if_neg (by simp [hin]), List.append_nil] at hT
            have HT := Lib.hid hT
            clear hT hin
            go_wp2_with fail
            go_roundw
            case rel => exact ⟨k + 1, r, by omega, by go_num, Lib.hid HT.out.symm, by omega, hf.trans0 (fr_alloc _ _ _), own_fr0 ho (fr_alloc _ _ _)⟩
            case measure => simp [intOf]; omega
      · have d1 : (x.k == key) = false := by simpa using h1
        have hin : seenP id key upto x = false := by simp [seenP, h1]
        rw [if_neg (by simp [hin]), List.append_nil] at hT
        have HT := Lib.hid hT
        clear hT hin
        go_wp2_with fail
        go_roundw
        case rel => exact ⟨k + 1, r, by omega, by go_num, Lib.hid HT.out.symm, by omega, hf.trans0 (fr_alloc _ _ _), own_fr0 ho (fr_alloc _ _ _)⟩
        case measure => simp [intOf]; omega
    · have hke : k = l.length := by omega
      have hR := HR.out
      rw [hke, List.take_of_length_le (Nat.le_refl _)] at hR
      clear HR
      subst hR
      go_wp2_with fail
      go_ret
      exact ⟨_, rfl, hf1.trans0 hf, own_base ho hf1.size⟩

set_option maxHeartbeats 4000000 in
theorem All40_is {W : World} {A : Option Addr} {c : Nat} {l : List V4I} (h : V4At W A l) (hsm : l.length ≤ 100000) (now key : Int) :
    Calls Try.prog 34 #[.agg #[.slice A l.length c, .int .i64 now], .int .i64 key] W (Rets (IListPost W (selV (keyP key) (fun x => x.v) l))) := by
  obtain ⟨i0, hi, hz0, hz1, hz2⟩ := info_parts info_int
  obtain ⟨w1, hw1⟩ : ∃ w1, w1 = W.alloc (.cells #[.slice A l.length c, .int .i64 now] 58) := ⟨_, rfl⟩
  have hf1 : Fr0 W w1 := hw1 ▸ fr_alloc _ _ _
  have hx := two_cells W (.slice A l.length c) (.int .i64 now) 58
  rw [← hw1] at hx
  have X1 := Lib.hid hx.1
  have HX := Lib.hid (h.fr0 hf1)
  clear h hx
  go_enter Try.func34, Try.ntmps34
  go_wp2_with fail
  rw [← hw1]
  clear hw1
  go_loopw [5, 6] (fun v5 v6 wr => ∃ (k : Nat) (r : List Int), k ≤ l.length ∧ v6 = .int .i64 k ∧ Hid (r = selV (keyP key) (fun x => x.v) (l.take k)) ∧ r.length ≤ k ∧ Fr0 w1 wr ∧ wr.ownsRow w1.heap.size 3 1 v5 r.length (intsI r)) (fun _ v6 _ => l.length - (intOf v6).toNat)
  case atStart => exact ⟨0, [], by omega, rfl, Lib.hid rfl, by simp, Fr.refl _ _, own_nil _ _ _ _⟩
  case round =>
    obtain ⟨k, r, hk, rfl, HR, hrl, hf, ho⟩ := hrel
    have hsz := hf.size
    have y1 := hf.cell X1.out (fun x => x)
    have y1L := heap_lt_of_cell y1
    obtain ⟨A3, c3, e3⟩ := own_form ho
    subst e3
    by_cases hlt : k < l.length
    · obtain ⟨b, o, x, rfl, he, c0, c1, c2, c4⟩ := v4_at (HX.out.fr0 hf) hlt
      have hlt' : (k : Int) < (l.length : Int) := by omega
      have hT := selV_take (keyP key) (fun x => x.v) l k he
      rw [← HR.out] at hT
      by_cases h1 : x.k = key
      · have d1 : (x.k == key) = true := by simpa using h1
        have hin : keyP key x = true := by simp [keyP, h1]
        rw [if_pos hin] at hT
        have HT := Lib.hid hT
        clear hT hin
        go_wp2_with (at_builtin; refine wpList_append_own _ rfl _ _ 41 rfl w1.heap.size 3 i0 (.int .i64 0) 1 8 Try.underlying41 hi hz0 hz1 hz2 rfl (by decide) _ _ _ rfl (own_fr0 ho (fr_alloc _ _ _)) _ 1 1 [.int .i64 x.v] rfl rfl (cell_one_new _ _ _) (by simp [Value.oneCell']) (by unfold maxLen; omega) (by omega) (by simp; omega) ?_; intro v' w2 hown' hgrow _)
        go_roundw
        case rel =>
          rw [intsI_snoc] at hown'
          exact ⟨k + 1, r ++ [x.v], by omega, by go_num, Lib.hid HT.out.symm, by simp; omega, (hf.trans0 (fr_alloc _ _ _)).trans (append_fr0 (own_fr0 ho (fr_alloc _ _ _)) hgrow) (fun j hj e => own_old ho hj e), by simpa using hown'⟩
        case measure => simp [intOf]; omega
      · have d1 : (x.k == key) = false := by simpa using h1
        have hin : keyP key x = false := by simp [keyP, h1]
        rw [if_neg (by simp [hin]), List.append_nil] at hT
        have HT := Lib.hid hT
        clear hT hin
        go_wp2_with fail
        go_roundw
        case rel => exact ⟨k + 1, r, by omega, by go_num, Lib.hid HT.out.symm, by omega, hf.trans0 (Fr.refl _ _), own_fr0 ho (Fr.refl _ _)⟩
        case measure => simp [intOf]; omega
    · have hke : k = l.length := by omega
      have hR := HR.out
      rw [hke, List.take_of_length_le (Nat.le_refl _)] at hR
      clear HR
      subst hR
      go_wp2_with fail
      go_ret
      exact ⟨_, rfl, hf1.trans0 hf, own_base ho hf1.size⟩

set_option maxHeartbeats 4000000 in
theorem Pending40_is {W : World} {A : Option Addr} {c : Nat} {l : List V4I} (h : V4At W A l) (hsm : l.length ≤ 100000) (now id : Int) :
    Calls Try.prog 38 #[.agg #[.slice A l.length c, .int .i64 now], .int .i64 id] W (Rets (IListPost W (ofI (selV (penP id) (fun x => x.k) l)))) := by
  obtain ⟨i0, hi, hz0, hz1, hz2⟩ := info_parts info_int
  obtain ⟨w1, hw1⟩ : ∃ w1, w1 = W.alloc (.cells #[.slice A l.length c, .int .i64 now] 58) := ⟨_, rfl⟩
  have hf1 : Fr0 W w1 := hw1 ▸ fr_alloc _ _ _
  have hx := two_cells W (.slice A l.length c) (.int .i64 now) 58
  rw [← hw1] at hx
  have X1 := Lib.hid hx.1
  have HX := Lib.hid (h.fr0 hf1)
  clear h hx
  go_enter Try.func38, Try.ntmps38
  go_wp2_with fail
  rw [← hw1]
  clear hw1
  go_loopw [5, 6] (fun v5 v6 wr => ∃ (k : Nat) (r : List Int), k ≤ l.length ∧ v6 = .int .i64 k ∧ Hid (r = selV (penP id) (fun x => x.k) (l.take k)) ∧ r.length ≤ k ∧ Fr0 w1 wr ∧ wr.ownsRow w1.heap.size 3 1 v5 r.length (intsI r)) (fun _ v6 _ => l.length - (intOf v6).toNat)
  case atStart => exact ⟨0, [], by omega, rfl, Lib.hid rfl, by simp, Fr.refl _ _, own_nil _ _ _ _⟩
  case round =>
    obtain ⟨k, r, hk, rfl, HR, hrl, hf, ho⟩ := hrel
    have hsz := hf.size
    have y1 := hf.cell X1.out (fun x => x)
    have y1L := heap_lt_of_cell y1
    obtain ⟨A3, c3, e3⟩ := own_form ho
    subst e3
    by_cases hlt : k < l.length
    · obtain ⟨b, o, x, rfl, he, c0, c1, c2, c4⟩ := v4_at (HX.out.fr0 hf) hlt
      have hlt' : (k : Int) < (l.length : Int) := by omega
      have hT := selV_take (penP id) (fun x => x.k) l k he
      rw [← HR.out] at hT
      by_cases h1 : x.i = id
      · have d1 : (x.i == id) = true := by simpa using h1
        by_cases h2 : x.s = 0
        · have d2 : (x.s == 0) = true := by simpa using h2
          have hin : penP id x = true := by simp [penP, h1, h2]
          rw [if_pos hin] at hT
          have HT := Lib.hid hT
          clear hT hin
          go_wp2_with (at_builtin; refine wpList_append_own _ rfl _ _ 41 rfl w1.heap.size 3 i0 (.int .i64 0) 1 8 Try.underlying41 hi hz0 hz1 hz2 rfl (by decide) _ _ _ rfl (own_fr0 ho (fr_alloc _ _ _)) _ 1 1 [.int .i64 x.k] rfl rfl (cell_one_new _ _ _) (by simp [Value.oneCell']) (by unfold maxLen; omega) (by omega) (by simp; omega) ?_; intro v' w2 hown' hgrow _)
          go_roundw
          case rel =>
            rw [intsI_snoc] at hown'
            exact ⟨k + 1, r ++ [x.k], by omega, by go_num, Lib.hid HT.out.symm, by simp; omega, (hf.trans0 (fr_alloc _ _ _)).trans (append_fr0 (own_fr0 ho (fr_alloc _ _ _)) hgrow) (fun j hj e => own_old ho hj e), by simpa using hown'⟩
          case measure => simp [intOf]; omega
        · have d2 : (x.s == 0) = false := by simpa using h2
          have hin : penP id x = false := by simp [penP, h1, h2]
          rw [if_neg (by simp [hin]), List.append_nil] at hT
          have HT := Lib.hid hT
          clear hT hin
          go_wp2_with fail
          go_roundw
          case rel => exact ⟨k + 1, r, by omega, by go_num, Lib.hid HT.out.symm, by omega, hf.trans0 (Fr.refl _ _), own_fr0 ho (Fr.refl _ _)⟩
          case measure => simp [intOf]; omega
      · have d1 : (x.i == id) = false := by simpa using h1
        have hin : penP id x = false := by simp [penP, h1]
        rw [if_neg (by simp [hin]), List.append_nil] at hT
        have HT := Lib.hid hT
        clear hT hin
        go_wp2_with fail
        go_roundw
        case rel => exact ⟨k + 1, r, by omega, by go_num, Lib.hid HT.out.symm, by omega, hf.trans0 (Fr.refl _ _), own_fr0 ho (Fr.refl _ _)⟩
        case measure => simp [intOf]; omega
    · have hke : k = l.length := by omega
      have hR := HR.out
      rw [hke, List.take_of_length_le (Nat.le_refl _)] at hR
      clear HR
      subst hR
      have HO := Lib.hid (Of_is (c := c3) (own_intsI ho (by omega)) (by omega))
      go_wp2_with (go_at_call 61; refine (HO.out).mono ?_; rintro e w' ⟨v, rfl, hf2, ho2⟩)
      go_ret
      exact ⟨_, rfl, (hf1.trans0 hf).trans0 hf2, own_base ho2 (Nat.le_trans hf1.size hsz)⟩

end Go.Proofs.Ytekigojbkhjdbaa
