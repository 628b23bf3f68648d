/- The document's locks: who holds what, which keys, who is in the way, asking and freeing. -/
import Derived.Test.YtekigojbkhjdbaaTups
import Derived.Test.YtekigojbkhjdbaaOf
namespace Go.Proofs.Ytekigojbkhjdbaa
set_option linter.all false
open Go.RowKit
set_option maxRecDepth 100000

structure LockI where
  i : Int
  k : Int
  m : Int
  deriving DecidableEq
def lockE (x : LockI) : List Int := [x.i, x.k, x.m]
theorem lockE_len (x : LockI) : (lockE x).length = 3 := rfl
abbrev LocksAt (W : World) (A : Option Addr) (l : List LockI) : Prop := TupsAt lockE 3 W A l
theorem lock_at {W : World} {A : Option Addr} {l : List LockI} (h : LocksAt W A l) {k : Nat} (hk : k < l.length) : ∃ b o x, A = some ⟨b, o, none⟩ ∧ l.take (k + 1) = l.take k ++ [x] ∧
    W.cell? ⟨b, o + k * 3, none⟩ = some (.int .i64 x.i) ∧ W.cell? ⟨b, o + k * 3 + 1, none⟩ = some (.int .i64 x.k) ∧ W.cell? ⟨b, o + k * 3 + 2, none⟩ = some (.int .i64 x.m) := by
  obtain ⟨b, o, e, hc⟩ := h.at_ hk
  exact ⟨b, o, l[k], e, take_succ_T l k hk, hc 0 (by omega), hc 1 (by omega), hc 2 (by omega)⟩
def IntPost2 (r : Int) (W : World) (v : Value) (w' : World) : Prop := v = .int .i64 r ∧ Fr0 W w'
def BoolPost (r : Bool) (W : World) (v : Value) (w' : World) : Prop := v = .bool r ∧ Fr0 W w'

/-! ### what they tell -/
def hitL (id key : Int) (x : LockI) : Bool := x.i == id && x.k == key
def holdsL (l : List LockI) (id key : Int) : Int := match l.find? (hitL id key) with | some x => x.m | none => 0
def keysR (l : List LockI) (id : Int) : List Int := (l.filter (fun x => x.i == id)).map (·.k)
def inWay (id key mode : Int) (x : LockI) : Bool := x.k == key && x.i != id && (mode == 2 || x.m == 2)
def blkR (l : List LockI) (id key mode : Int) : List Int := (l.filter (inWay id key mode)).map (·.i)
def isMode (mode : Int) : Bool := mode == 1 || mode == 2
def blkL (l : List LockI) (id key mode : Int) : List Int := if isMode mode then ofI (blkR l id key mode) else []
def canL (l : List LockI) (id key mode : Int) : Bool := isMode mode && (blkL l id key mode).isEmpty
def askL (l : List LockI) (id key mode : Int) : List LockI := if canL l id key mode then (if holdsL l id key = 2 then l else l.filter (fun x => !hitL id key x) ++ [⟨id, key, mode⟩]) else l
def freeL (l : List LockI) (id : Int) : List LockI := l.filter (fun x => x.i != id)
theorem find_take {l : List LockI} {p : LockI → Bool} {k : Nat} {x : LockI} (h : (l.take k).find? p = none) (e : l.take (k + 1) = l.take k ++ [x]) : (l.take (k + 1)).find? p = if p x then some x else none := by
  rw [e, List.find?_append, h]
  cases hp : p x <;> simp [hp]
theorem find_of_take {l : List LockI} {p : LockI → Bool} {k : Nat} {x : LockI} (h : (l.take k).find? p = some x) : l.find? p = some x := by
  rw [← List.take_append_drop k l, List.find?_append, h]; rfl
theorem keysR_take (l : List LockI) (id : Int) (k : Nat) {x : LockI} (e : l.take (k + 1) = l.take k ++ [x]) : keysR (l.take (k + 1)) id = keysR (l.take k) id ++ (if x.i = id then [x.k] else []) := by
  rw [e, keysR, List.filter_append, List.map_append]
  by_cases h : x.i = id <;> simp [keysR, h]
theorem blkR_take (l : List LockI) (id key mode : Int) (k : Nat) {x : LockI} (e : l.take (k + 1) = l.take k ++ [x]) : blkR (l.take (k + 1)) id key mode = blkR (l.take k) id key mode ++ (if inWay id key mode x then [x.i] else []) := by
  rw [e, blkR, List.filter_append, List.map_append]
  by_cases h : inWay id key mode x = true <;> simp [blkR, h]
theorem filter_take (l : List LockI) (p : LockI → Bool) (k : Nat) {x : LockI} (e : l.take (k + 1) = l.take k ++ [x]) : (l.take (k + 1)).filter p = (l.take k).filter p ++ (if p x then [x] else []) := by
  rw [e, List.filter_append]
  by_cases h : p x = true <;> simp [h]
theorem keysR_len (l : List LockI) (id : Int) : (keysR l id).length ≤ l.length := by simp [keysR, List.length_filter_le]
theorem blkR_len (l : List LockI) (id key mode : Int) : (blkR l id key mode).length ≤ l.length := by simp [blkR, List.length_filter_le]
theorem askL_len (l : List LockI) (id key mode : Int) : (askL l id key mode).length ≤ l.length + 1 := by
  unfold askL
  split
  · split
    · omega
    · have := List.length_filter_le (fun x => !hitL id key x) l
      simp; omega
  · omega

theorem Holds39_is {W : World} {A : Option Addr} {c : Nat} {l : List LockI} (h : LocksAt W A l) (hsm : l.length ≤ 1000000) (id key : Int) :
    Calls Try.prog 20 #[.slice A l.length c, .int .i64 id, .int .i64 key] W (Rets (IntPost2 (holdsL l id key) W)) := by
  have HX := Lib.hid h
  clear h
  go_enter Try.func20, Try.ntmps20
  go_wp2_with fail
  go_loopw [7] (fun v7 wr => ∃ k : Nat, k ≤ l.length ∧ v7 = .int .i64 k ∧ Hid ((l.take k).find? (hitL id key) = none) ∧ wr = W) (fun v7 _ => l.length - (intOf v7).toNat)
  case atStart => exact ⟨0, by omega, rfl, Lib.hid rfl, rfl⟩
  case round =>
    obtain ⟨k, hk, rfl, HN, rfl⟩ := hrel
    by_cases hlt : k < l.length
    · obtain ⟨b, o, x, rfl, he, c0, c1, c2⟩ := lock_at HX.out hlt
      have hlt' : (k : Int) < (l.length : Int) := by omega
      have hF := find_take HN.out he
      have hT := fun h => find_of_take (p := hitL id key) (k := k + 1) (x := x) (l := l) h
      by_cases h1 : x.i = id
      · by_cases h2 : x.k = key
        · rw [show hitL id key x = true by simp [hitL, h1, h2]] at hF
          have HR := Lib.hid (show holdsL l id key = x.m by rw [holdsL, hT (by simpa using hF)])
          have d1 : (x.i == id) = true := by simpa using h1
          have d2 : (x.k == key) = true := by simpa using h2
          clear hF hT h1 h2 HN
          go_wp2_with fail
          go_ret
          refine ⟨_, rfl, ?_, Fr.refl _ _⟩
          rw [HR.out]; rfl
        · rw [show hitL id key x = false by simp [hitL, h2]] at hF
          have HF := Lib.hid hF
          have d1 : (x.i == id) = true := by simpa using h1
          have d2 : (x.k == key) = false := by simpa using h2
          clear hF hT h1 HN
          go_wp2_with fail
          go_roundw
          case rel => exact ⟨k + 1, by omega, by go_num, Lib.hid (by simpa using HF.out), by trivial⟩
          case measure => simp [intOf]; omega
      · rw [show hitL id key x = false by simp [hitL, h1]] at hF
        have HF := Lib.hid hF
        have d1 : (x.i == id) = false := by simpa using h1
        clear hF hT HN
        go_wp2_with fail
        go_roundw
        case rel => exact ⟨k + 1, by omega, by go_num, Lib.hid (by simpa using HF.out), by trivial⟩
        case measure => simp [intOf]; omega
    · have hke : k = l.length := by omega
      have hN := HN.out
      rw [hke, List.take_of_length_le (Nat.le_refl _)] at hN
      have HR := Lib.hid (show holdsL l id key = 0 by rw [holdsL, hN])
      clear hN HN
      go_wp2_with fail
      go_ret
      refine ⟨_, rfl, ?_, Fr.refl _ _⟩
      rw [HR.out]; rfl
set_option maxHeartbeats 2000000 in
theorem Keys39_is {W : World} {A : Option Addr} {c : Nat} {l : List LockI} (h : LocksAt W A l) (hsm : l.length ≤ 1000000) (id : Int) :
    Calls Try.prog 23 #[.slice A l.length c, .int .i64 id] W (Rets (IListPost W (ofI (keysR l id)))) := by
  obtain ⟨i0, hi, hz0, hz1, hz2⟩ := info_parts info_int
  have HX := Lib.hid h
  clear h
  go_enter Try.func23, Try.ntmps23
  go_wp2_with fail
  go_loopw [5, 6] (fun v5 v6 wr => ∃ (k : Nat) (r : List Int), k ≤ l.length ∧ v6 = .int .i64 k ∧ Hid (r = keysR (l.take k) id) ∧ r.length ≤ k ∧ Fr0 W wr ∧ wr.ownsRow W.heap.size 3 1 v5 r.length (intsI r)) (fun _ v6 _ => l.length - (intOf v6).toNat)
  case atStart => exact ⟨0, [], by omega, rfl, Lib.hid rfl, by simp, Fr.refl _ _, own_nil _ _ _ _⟩
  case round =>
    obtain ⟨k, r, hk, rfl, HR, hrl, hf, ho⟩ := hrel
    have hsz := hf.size
    obtain ⟨A3, c3, e3⟩ := own_form ho
    subst e3
    by_cases hlt : k < l.length
    · obtain ⟨b, o, x, rfl, he, c0, c1, c2⟩ := lock_at (HX.out.fr0 hf) hlt
      have hlt' : (k : Int) < (l.length : Int) := by omega
      have hT := keysR_take l id k he
      rw [← HR.out] at hT
      by_cases h1 : x.i = id
      · rw [if_pos h1] at hT
        have HT := Lib.hid hT
        have d1 : (x.i == id) = true := by simpa using h1
        clear hT h1
        go_wp2_with (at_builtin; refine wpList_append_own _ rfl _ _ 41 rfl W.heap.size 3 i0 (.int .i64 0) 1 8 Try.underlying41 hi hz0 hz1 hz2 rfl (by decide) _ _ _ rfl (own_fr0 ho (fr_alloc _ _ _)) _ 1 1 [.int .i64 x.k] rfl rfl (cell_one_new _ _ _) (by simp [Value.oneCell']) (by unfold maxLen; omega) (by omega) (by simp; omega) ?_; intro v' w2 hown' hgrow _)
        go_roundw
        case rel =>
          rw [intsI_snoc] at hown'
          exact ⟨k + 1, r ++ [x.k], by omega, by go_num, Lib.hid HT.out.symm, by simp; omega, (hf.alloc _).trans (append_fr0 (own_fr0 ho (fr_alloc _ _ _)) hgrow) (fun j hj e => own_old ho hj e), by simpa using hown'⟩
        case measure => simp [intOf]; omega
      · rw [if_neg h1, List.append_nil] at hT
        have HT := Lib.hid hT
        have d1 : (x.i == id) = false := by simpa using h1
        clear hT
        go_wp2_with fail
        go_roundw
        case rel => exact ⟨k + 1, r, by omega, by go_num, Lib.hid HT.out.symm, by omega, hf, ho⟩
        case measure => simp [intOf]; omega
    · have hke : k = l.length := by omega
      have hR := HR.out
      rw [hke, List.take_of_length_le (Nat.le_refl _)] at hR
      clear HR
      subst hR
      have HO := Lib.hid (Of_is (c := c3) (own_intsI ho (by omega)) (by omega))
      go_wp2_with (go_at_call 61; refine (HO.out).mono ?_; rintro e w' ⟨v, rfl, hf2, ho2⟩)
      go_ret
      exact ⟨_, rfl, hf.trans0 hf2, own_base ho2 hsz⟩
set_option maxHeartbeats 4000000 in
theorem Blocks39_is {W : World} {A : Option Addr} {c : Nat} {l : List LockI} (h : LocksAt W A l) (hsm : l.length ≤ 1000000) (id key mode : Int) :
    Calls Try.prog 25 #[.slice A l.length c, .int .i64 id, .int .i64 key, .int .i64 mode] W (Rets (IListPost W (blkL l id key mode))) := by
  obtain ⟨i0, hi, hz0, hz1, hz2⟩ := info_parts info_int
  have HX := Lib.hid h
  clear h
  have hmode : isMode mode = (mode == 1 || mode == 2) := rfl
  by_cases hm : isMode mode = true
  · have e : blkL l id key mode = ofI (blkR l id key mode) := by rw [blkL, if_pos hm]
    rw [e]
    clear e
    have hm12 : mode = 1 ∨ mode = 2 := by rw [hmode] at hm; simpa using hm
    clear hm hmode
    rcases hm12 with rfl | rfl
    · go_enter Try.func25, Try.ntmps25
      go_wp2_with fail
      go_loopw [9, 10] (fun v9 v10 wr => ∃ (k : Nat) (r : List Int), k ≤ l.length ∧ v10 = .int .i64 k ∧ Hid (r = blkR (l.take k) id key 1) ∧ r.length ≤ k ∧ Fr0 W wr ∧ wr.ownsRow W.heap.size 3 1 v9 r.length (intsI r)) (fun _ v10 _ => l.length - (intOf v10).toNat)
      case atStart => exact ⟨0, [], by omega, rfl, Lib.hid rfl, by simp, Fr.refl _ _, own_nil _ _ _ _⟩
      case round =>
        obtain ⟨k, r, hk, rfl, HR, hrl, hf, ho⟩ := hrel
        have hsz := hf.size
        obtain ⟨A3, c3, e3⟩ := own_form ho
        subst e3
        by_cases hlt : k < l.length
        · obtain ⟨b, o, x, rfl, he, c0, c1, c2⟩ := lock_at (HX.out.fr0 hf) hlt
          have hlt' : (k : Int) < (l.length : Int) := by omega
          have hT := blkR_take l id key 1 k he
          rw [← HR.out] at hT
          by_cases h1 : x.k = key
          · have d1 : (x.k == key) = true := by simpa using h1
            by_cases h2 : x.i = id
            · have d2 : (x.i == id) = true := by simpa using h2
              have e2 : (x.i != id) = false := by simp [h2]
              have hin : inWay id key 1 x = false := by simp [inWay, d2, h2]
              clear h1 h2
              rw [if_neg (by simp [hin]), List.append_nil] at hT
              have HT := Lib.hid hT
              clear hT hin
              go_wp2_with fail
              go_roundw
              case rel => exact ⟨k + 1, r, by omega, by go_num, Lib.hid HT.out.symm, by omega, hf, ho⟩
              case measure => simp [intOf]; omega
            · have d2 : (x.i == id) = false := by simpa using h2
              have e2 : (x.i != id) = true := by simp [h2]
              by_cases h3 : x.m = 2
              · have d3 : (x.m == 2) = true := by simpa using h3
                have hin : inWay id key 1 x = true := by simp [inWay, d1, h2, d3]
                clear h1 h3
                rw [if_pos hin] at hT
                have HT := Lib.hid hT
                clear hT hin
                go_wp2_with (at_builtin; refine wpList_append_own _ rfl _ _ 41 rfl W.heap.size 3 i0 (.int .i64 0) 1 8 Try.underlying41 hi hz0 hz1 hz2 rfl (by decide) _ _ _ rfl (own_fr0 ho (fr_alloc _ _ _)) _ 1 1 [.int .i64 x.i] rfl rfl (cell_one_new _ _ _) (by simp [Value.oneCell']) (by unfold maxLen; omega) (by omega) (by simp; omega) ?_; intro v' w2 hown' hgrow _)
                go_roundw
                case rel =>
                  rw [intsI_snoc] at hown'
                  exact ⟨k + 1, r ++ [x.i], by omega, by go_num, Lib.hid HT.out.symm, by simp; omega, (hf.alloc _).trans (append_fr0 (own_fr0 ho (fr_alloc _ _ _)) hgrow) (fun j hj e => own_old ho hj e), by simpa using hown'⟩
                case measure => simp [intOf]; omega
              · have d3 : (x.m == 2) = false := by simpa using h3
                have hin : inWay id key 1 x = false := by simp [inWay, d1, h2, d3]
                clear h1
                rw [if_neg (by simp [hin]), List.append_nil] at hT
                have HT := Lib.hid hT
                clear hT hin
                go_wp2_with fail
                go_roundw
                case rel => exact ⟨k + 1, r, by omega, by go_num, Lib.hid HT.out.symm, by omega, hf, ho⟩
                case measure => simp [intOf]; omega
          · have d1 : (x.k == key) = false := by simpa using h1
            have hin : inWay id key 1 x = false := by simp [inWay, d1]
            rw [if_neg (by simp [hin]), List.append_nil] at hT
            have HT := Lib.hid hT
            clear hT hin
            go_wp2_with fail
            go_roundw
            case rel => exact ⟨k + 1, r, by omega, by go_num, Lib.hid HT.out.symm, by omega, hf, ho⟩
            case measure => simp [intOf]; omega
        · have hke : k = l.length := by omega
          have hR := HR.out
          rw [hke, List.take_of_length_le (Nat.le_refl _)] at hR
          clear HR
          subst hR
          have HO := Lib.hid (Of_is (c := c3) (own_intsI ho (by omega)) (by omega))
          go_wp2_with (go_at_call 61; refine (HO.out).mono ?_; rintro e w' ⟨v, rfl, hf2, ho2⟩)
          go_ret
          exact ⟨_, rfl, hf.trans0 hf2, own_base ho2 hsz⟩
    · go_enter Try.func25, Try.ntmps25
      go_wp2_with fail
      go_loopw [9, 10] (fun v9 v10 wr => ∃ (k : Nat) (r : List Int), k ≤ l.length ∧ v10 = .int .i64 k ∧ Hid (r = blkR (l.take k) id key 2) ∧ r.length ≤ k ∧ Fr0 W wr ∧ wr.ownsRow W.heap.size 3 1 v9 r.length (intsI r)) (fun _ v10 _ => l.length - (intOf v10).toNat)
      case atStart => exact ⟨0, [], by omega, rfl, Lib.hid rfl, by simp, Fr.refl _ _, own_nil _ _ _ _⟩
      case round =>
        obtain ⟨k, r, hk, rfl, HR, hrl, hf, ho⟩ := hrel
        have hsz := hf.size
        obtain ⟨A3, c3, e3⟩ := own_form ho
        subst e3
        by_cases hlt : k < l.length
        · obtain ⟨b, o, x, rfl, he, c0, c1, c2⟩ := lock_at (HX.out.fr0 hf) hlt
          have hlt' : (k : Int) < (l.length : Int) := by omega
          have hT := blkR_take l id key 2 k he
          rw [← HR.out] at hT
          by_cases h1 : x.k = key
          · have d1 : (x.k == key) = true := by simpa using h1
            by_cases h2 : x.i = id
            · have d2 : (x.i == id) = true := by simpa using h2
              have e2 : (x.i != id) = false := by simp [h2]
              have hin : inWay id key 2 x = false := by simp [inWay, d2, h2]
              clear h1 h2
              rw [if_neg (by simp [hin]), List.append_nil] at hT
              have HT := Lib.hid hT
              clear hT hin
              go_wp2_with fail
              go_roundw
              case rel => exact ⟨k + 1, r, by omega, by go_num, Lib.hid HT.out.symm, by omega, hf, ho⟩
              case measure => simp [intOf]; omega
            · have d2 : (x.i == id) = false := by simpa using h2
              have e2 : (x.i != id) = true := by simp [h2]
              have hin : inWay id key 2 x = true := by simp [inWay, d1, h2]
              clear h1
              rw [if_pos hin] at hT
              have HT := Lib.hid hT
              clear hT hin
              go_wp2_with (at_builtin; refine wpList_append_own _ rfl _ _ 41 rfl W.heap.size 3 i0 (.int .i64 0) 1 8 Try.underlying41 hi hz0 hz1 hz2 rfl (by decide) _ _ _ rfl (own_fr0 ho (fr_alloc _ _ _)) _ 1 1 [.int .i64 x.i] rfl rfl (cell_one_new _ _ _) (by simp [Value.oneCell']) (by unfold maxLen; omega) (by omega) (by simp; omega) ?_; intro v' w2 hown' hgrow _)
              go_roundw
              case rel =>
                rw [intsI_snoc] at hown'
                exact ⟨k + 1, r ++ [x.i], by omega, by go_num, Lib.hid HT.out.symm, by simp; omega, (hf.alloc _).trans (append_fr0 (own_fr0 ho (fr_alloc _ _ _)) hgrow) (fun j hj e => own_old ho hj e), by simpa using hown'⟩
              case measure => simp [intOf]; omega
          · have d1 : (x.k == key) = false := by simpa using h1
            have hin : inWay id key 2 x = false := by simp [inWay, d1]
            rw [if_neg (by simp [hin]), List.append_nil] at hT
            have HT := Lib.hid hT
            clear hT hin
            go_wp2_with fail
            go_roundw
            case rel => exact ⟨k + 1, r, by omega, by go_num, Lib.hid HT.out.symm, by omega, hf, ho⟩
            case measure => simp [intOf]; omega
        · have hke : k = l.length := by omega
          have hR := HR.out
          rw [hke, List.take_of_length_le (Nat.le_refl _)] at hR
          clear HR
          subst hR
          have HO := Lib.hid (Of_is (c := c3) (own_intsI ho (by omega)) (by omega))
          go_wp2_with (go_at_call 61; refine (HO.out).mono ?_; rintro e w' ⟨v, rfl, hf2, ho2⟩)
          go_ret
          exact ⟨_, rfl, hf.trans0 hf2, own_base ho2 hsz⟩
  · have e : blkL l id key mode = [] := by rw [blkL, if_neg hm]
    have m1 : (mode == 1) = false := by cases h : (mode == 1) with | false => rfl | true => rw [hmode, h] at hm; simp at hm
    have m2 : (mode == 2) = false := by cases h : (mode == 2) with | false => rfl | true => rw [hmode, h] at hm; simp at hm
    have n1 : ¬ mode = 1 := by simpa using m1
    have n2 : ¬ mode = 2 := by simpa using m2
    have e1 : (mode != 1) = true := by simp [n1]
    have e2 : (mode != 2) = true := by simp [n2]
    rw [e]
    clear e hm hmode
    go_enter Try.func25, Try.ntmps25
    go_wp2_with fail
    go_ret
    exact ⟨_, rfl, Fr.refl _ _, own_nil _ _ _ _⟩
end Go.Proofs.Ytekigojbkhjdbaa
