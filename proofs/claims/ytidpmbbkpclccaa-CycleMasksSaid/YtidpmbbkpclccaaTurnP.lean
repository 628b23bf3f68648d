/- The program's cycles turned; the library's Grow and Concat at numbers. -/
import Derived.Test.YtidpmbbkpclccaaCyRef
import Derived.Test.YtidpmbbkpclccaaAppRow
import Derived.Test.YtidpmbbkpclccaaFuncI
import Derived.Lib.AppendZerosOnto
namespace Go.Proofs.Ytidpmbbkpclccaa
set_option linter.all false
open Go.RowKit
set_option maxRecDepth 100000

theorem slice_tailT {A : Option Addr} {c i : Nat} {zs : List Int} (hp : Plain A zs.length c) (hc : zs.length ≤ c) (hi : i ≤ zs.length) :
    ∃ A' c', (∀ wx, (Instr.slice 23 (.slice A zs.length c) (some (.int .i64 (i : Int))) none none).run Try.prog wx = .ok (.slice A' (zs.drop i).length c') wx) ∧ Plain A' (zs.drop i).length c' ∧ (zs.drop i).length ≤ c' ∧
      ∀ w, IntsAt w A zs → IntsAt w A' (zs.drop i) := by
  refine ⟨if c = i then A else A.map (·.add (i * 1)), c - i, fun wx => ?_, ?_, by rw [List.length_drop]; omega, fun w h => ⟨by rw [List.length_drop]; have := h.1; omega, ?_⟩⟩
  · rw [run_slice_l (P := Try.prog) wx 23 A zs.length c elem_ints .i64 (i : Int) (by omega) (by omega)]
    go_simp
  · intro hA
    have : A = none := by
      cases A with
      | none => rfl
      | some a => split at hA <;> cases hA
    have := hp this
    rw [List.length_drop]; omega
  · by_cases hci : c = i
    · left; rw [List.drop_eq_nil_iff]; omega
    · rw [if_neg hci]
      rcases h.2 with rfl | ⟨b, o, rfl, hcc⟩
      · left; simp
      · refine .inr ⟨b, o + i, by simp [Addr.add], fun j hj => ?_⟩
        rw [List.length_drop] at hj
        rw [Nat.add_assoc, hcc (i + j) (by omega)]
        simp [List.getD_eq_getElem?_getD, List.getElem?_drop]
theorem min_take (xs : List Int) : ∀ k, k < xs.length → Lib.minOf (xs.take (k + 1)) = xs.getD (minIdx xs (k + 1)) 0
  | 0, h => by rw [Lib.minOf_one]; simp [minIdx]
  | k + 1, h => by
    rw [Lib.minOf_step xs (k + 1) (by omega) h, min_take xs k (by omega)]
    rw [show minIdx xs (k + 1 + 1) = if xs.getD (k + 1) 0 < xs.getD (minIdx xs (k + 1)) 0 then k + 1 else minIdx xs (k + 1) from rfl]
    split
    · rename_i hh
      omega
    · rename_i hh
      omega
theorem min_all {xs : List Int} (h : 0 < xs.length) : Lib.minOf xs = xs.getD (minIdx xs xs.length) 0 := by
  obtain ⟨n, hn⟩ : ∃ n, xs.length = n + 1 := ⟨xs.length - 1, by omega⟩
  have := min_take xs n (by omega)
  rw [← hn, List.take_length] at this
  exact this
theorem idx_min {xs : List Int} (h : 0 < xs.length) : Lib.idxOf xs (Lib.minOf xs) = (minIdx xs xs.length : Nat) := by
  obtain ⟨h1, h2, h3⟩ := minIdx_first xs xs.length h
  have := Lib.idxOf_hit xs xs.length (minIdx xs xs.length) (Lib.minOf xs) h1 (Nat.le_refl _) (min_all h).symm (fun j hj e => by
    have := h3 j hj
    rw [e, min_all h] at this
    exact absurd this (Int.lt_irrefl _))
  rwa [List.take_length] at this
theorem index_is {W : World} {A : Option Addr} {c : Nat} {xs : List Int} (h : IntsAt W A xs) (hl : 0 < xs.length) (hsm : xs.length ≤ 1000000) (x : Int) :
    Calls Try.prog 27 #[.slice A xs.length c, .int .i64 x] W (Rets (fun v w' => v = .int .i64 (Lib.idxOf xs x) ∧ Fr0 W w')) := by
  rcases h.2 with rfl | ⟨b, o, rfl, hc⟩
  · cases hl
  · refine (Try.slices_Index_int b o xs.length c xs x W (Nat.le_refl _) (by omega) hc).mono ?_
    rintro e w' ⟨rfl, rfl⟩
    exact ⟨_, rfl, by rw [List.take_length], Fr.refl _ _⟩
theorem min_is {W : World} {A : Option Addr} {c : Nat} {xs : List Int} (h : IntsAt W A xs) (hl : 0 < xs.length) (hsm : xs.length ≤ 1000000) :
    Calls Try.prog 28 #[.slice A xs.length c] W (Rets (fun v w' => v = .int .i64 (Lib.minOf xs) ∧ Fr0 W w')) := by
  rcases h.2 with rfl | ⟨b, o, rfl, hc⟩
  · cases hl
  · refine (Try.slices_Min_int b o xs.length c xs W hl (Nat.le_refl _) (by omega) hc).mono ?_
    rintro e w' ⟨rfl, rfl⟩
    exact ⟨_, rfl, by rw [List.take_length], Fr.refl _ _⟩
/-- Room for so many numbers, out of nothing. -/
theorem GrowI_is {W : World} {n : Nat} (hn : n ≤ 1000000) : Calls Try.prog 46 #[.slice none 0 0, .int .i64 n] W (Rets (IListPost W [])) := by
  obtain ⟨i0, hi, hz0, hz1, hz2⟩ := info_parts info_int
  by_cases h0 : n = 0
  · subst h0
    go_enter Try.func46, Try.ntmps46
    go_wp2_with fail
    go_ret
    exact ⟨_, rfl, Fr.refl _ _, own_nil _ _ _ _⟩
  · have hgt : (0 : Int) < (n : Int) := by omega
    have hold : (Builtin.firstCells i0.size 0 (.slice none 0 0)).run Try.prog W.drew = .ok (List.nil (α := Value)).toArray W.drew := run_firstCells_none (P := Try.prog) (w := W.drew) i0.size 0 0 0
    have hr := Lib.run_append_grow_zeros (P := Try.prog) W 23 3 23 3 i0 (.int .i64 0) .i64 .i64 Try.underlying23 Try.underlying3 hi hz0 none 0 0 [] hold n (by omega) (by omega) (by omega) (by omega) (by rw [hz2]; omega) (growslice_fits (by omega) (by rw [hz2]; omega))
    have hG1 : 0 + n ≤ grownCap W (0 + n) 0 3 := grownCap_ge W _ _ _
    have hG2 := grownCap_le_maxLen W (0 + n) 0 3 (by unfold maxLen; omega)
    generalize grownCap W (0 + n) 0 3 = G at hr hG1 hG2
    obtain ⟨cs, hcs⟩ : ∃ cs : Array Value, (List.nil (α := Value)).toArray ++ Builtin.zeroCells (Value.int .i64 0).cells n ++ Builtin.zeroCells (Value.int .i64 0).cells (G - (0 + n)) = cs := ⟨_, rfl⟩
    have hsz : cs.size = G := by rw [← hcs]; simp [Builtin.zeroCells, Value.cells]; omega
    rw [hcs] at hr
    clear hcs hold
    go_enter Try.func46, Try.ntmps46
    go_wp2_with (at_builtin; refine Lib.wpList_append_run _ rfl _ _ _ _ rfl _ _ rfl rfl _ _ hr ?_)
    go_ret
    exact ⟨_, rfl, (fr_alloc _ _ _).drew, ⟨rfl, .inr ⟨W.heap.size, G, cs, rfl, Nat.le_refl _, World.alloc_heap_new W _, Nat.zero_le _, hG2, by omega, by simp [intsI]⟩⟩⟩
set_option maxHeartbeats 4000000 in
theorem ConcatI_is {W : World} {b : Nat} {A B : Option Addr} {c d : Nat} {ys zs : List Int} (k0 : W.cell? ⟨b, 0, none⟩ = some (.slice A ys.length c)) (k1 : W.cell? ⟨b, 1, none⟩ = some (.slice B zs.length d))
    (hy : IntsAt W A ys) (hz : IntsAt W B zs) (hpy : Plain A ys.length c) (hpz : Plain B zs.length d) (hsy : ys.length ≤ 100000) (hsz : zs.length ≤ 100000) :
    Calls Try.prog 29 #[.slice (some ⟨b, 0, none⟩) 2 2] W (Rets (IListPost W (ys ++ zs))) := by
  have HY := Lib.hid hy
  have HZ := Lib.hid hz
  have HPY := Lib.hid hpy
  have HPZ := Lib.hid hpz
  have HG := Lib.hid (GrowI_is (W := W) (n := ys.length + zs.length) (by omega))
  clear hy hz hpy hpz
  go_enter Try.func29, Try.ntmps29
  go_wp2_with fail
  go_loopw [3, 5, 11] (fun v3 v5 v11 wr => ∃ k : Nat, k ≤ 2 ∧ v11 = .int .i64 k ∧ v3 = .int .i64 (if k = 0 then 0 else if k = 1 then (ys.length : Int) else (ys.length : Int) + (zs.length : Int)) ∧ W = wr) (fun _ _ v11 _ => 2 - (intOf v11).toNat)
  case atStart => exact ⟨0, by omega, rfl, rfl, rfl⟩
  case round =>
    obtain ⟨k, hk, rfl, rfl, rfl⟩ := hrel
    rcases (show k = 0 ∨ k = 1 ∨ k = 2 by omega) with rfl | rfl | rfl
    · go_wp2_with fail
      go_roundw
      case rel => exact ⟨1, by omega, by go_num, by first | rfl | (simp), by first | rfl | trivial⟩
      case measure => simp [intOf]
    · have hw : IntKind.i64.wrap ((ys.length : Int) + (zs.length : Int)) = (ys.length : Int) + (zs.length : Int) := by rw [IntKind.wrap_i64]; omega
      go_wp2_with fail
      go_roundw
      case rel => exact ⟨2, by omega, by go_num, by first | rfl | (simp), by first | rfl | trivial⟩
      case measure => simp [intOf]
    · rw [show ((ys.length + zs.length : Nat) : Int) = (ys.length : Int) + (zs.length : Int) by omega] at HG
      unfold IListPost at HG
      go_wp2_with (go_at_call 46; refine (HG.out).mono ?_; rintro e w1 ⟨v1, rfl, hf1, ho1⟩)
      have HO1 := Lib.hid ho1
      clear ho1
      go_loopw [6, 8, 27] (fun v6 v8 v27 w2 => ∃ (k : Nat) (L : List Int), k ≤ 2 ∧ v27 = .int .i64 k ∧ Hid (L = if k = 0 then [] else if k = 1 then ys else ys ++ zs) ∧ L.length ≤ k * 100000 ∧ Fr0 W w2 ∧ Hid (w2.ownsRow W.heap.size 3 1 v6 L.length (intsI L))) (fun _ _ v27 _ => 2 - (intOf v27).toNat)
      case atStart => exact ⟨0, [], by omega, rfl, Lib.hid rfl, by simp, hf1, HO1⟩
      case round =>
        obtain ⟨k, L, hk, rfl, HL, hll, hf, HO⟩ := hrel
        rcases (show k = 0 ∨ k = 1 ∨ k = 2 by omega) with rfl | rfl | rfl
        · have c0 := hf.cell k0 (fun x => x)
          go_wp2_with (at_builtin; refine wpList_append_ints rfl (.tmp 31) (.tmp 32) rfl (B := W.heap.size) (xs := L) (ys := ys) rfl rfl HPY.out (by omega) hf.size HO.out (HY.out.fr0 hf) ?_; intro v' w3 hown' hfr')
          have hF3 : Fr0 W w3 := hf.trans hfr' (fun j hj e => own_old HO.out hj e)
          go_roundw
          case rel => exact ⟨1, L ++ ys, by omega, by go_num, Lib.hid (by rw [HL.out]; simp), by rw [List.length_append]; omega, hF3, Lib.hid hown'⟩
          case measure => simp [intOf]
        · have c1 := hf.cell k1 (fun x => x)
          go_wp2_with (at_builtin; refine wpList_append_ints rfl (.tmp 31) (.tmp 32) rfl (B := W.heap.size) (xs := L) (ys := zs) rfl rfl HPZ.out (by omega) hf.size HO.out (HZ.out.fr0 hf) ?_; intro v' w3 hown' hfr')
          have hF3 : Fr0 W w3 := hf.trans hfr' (fun j hj e => own_old HO.out hj e)
          go_roundw
          case rel => exact ⟨2, L ++ zs, by omega, by go_num, Lib.hid (by rw [HL.out]; simp), by rw [List.length_append]; omega, hF3, Lib.hid hown'⟩
          case measure => simp [intOf]
        · go_wp2_with fail
          go_ret
          have hL : L = ys ++ zs := HL.out.trans rfl
          subst hL
          exact ⟨_, rfl, hf, HO.out⟩
theorem slice_headI {A : Option Addr} {c i : Nat} {zs : List Int} (hp : Plain A zs.length c) (hc : zs.length ≤ c) (hi : i ≤ zs.length) :
    (∀ wx, (Instr.slice 23 (.slice A zs.length c) none (some (.int .i64 (i : Int))) none).run Try.prog wx = .ok (.slice A (zs.take i).length c) wx) ∧ Plain A (zs.take i).length c := by
  have e : (zs.take i).length = i := by rw [List.length_take]; omega
  rw [e]
  refine ⟨fun wx => slice_head A _ c i (by omega) wx, fun hA => ?_⟩
  have := hp hA
  omega
theorem own_baseT {W : World} {e size B B0 n : Nat} {v : Value} {xs : List Value} (h : W.ownsRow B e size v n xs) (hB : B0 ≤ B) : W.ownsRow B0 e size v n xs := by
  refine ⟨h.1, h.2.imp id ?_⟩
  rintro ⟨g, cap, cur, rfl, hb, rest⟩
  exact ⟨g, cap, cur, rfl, Nat.le_trans hB hb, rest⟩
/-- Two slices in a row. -/
theorem two_cells (W : World) (u v : Value) (t : Nat) : (W.alloc (.cells #[u, v] t)).cell? ⟨W.heap.size, 0, none⟩ = some u ∧ (W.alloc (.cells #[u, v] t)).cell? ⟨W.heap.size, 1, none⟩ = some v := by
  have h := World.alloc_heap_new W (.cells #[u, v] t)
  constructor <;> (unfold World.cell?; rw [h]; rfl)
set_option maxHeartbeats 4000000 in
theorem Turn_is {W : World} {A : Option Addr} {c : Nat} {xs : List Int} (h : IntsAt W A xs) (hp : Plain A xs.length c) (hcp : xs.length ≤ c) (hsm : xs.length ≤ 100000) :
    Calls Try.prog 12 #[.slice A xs.length c] W (Rets (IListPost W (turnC xs))) := by
  by_cases hl : 0 < xs.length
  · have hb := (minIdx_first xs xs.length hl).1
    have HM := Lib.hid (min_is (c := c) h hl (by omega))
    have HI := Lib.hid (fun (w : World) (f : Fr0 W w) => index_is (c := c) (h.fr0 f) hl (by omega) (Lib.minOf xs))
    rw [idx_min hl] at HI
    have HT : Hid (turnC xs = xs.drop (minIdx xs xs.length) ++ xs.take (minIdx xs xs.length)) := Lib.hid rfl
    generalize Lib.minOf xs = m at HM HI
    generalize minIdx xs xs.length = k at HI HT hb
    obtain ⟨A1, c1, hsl, hp1, hc1, hi1⟩ := slice_tailT hp hcp (i := k) (by omega)
    obtain ⟨hsh, hp2⟩ := slice_headI hp hcp (i := k) (by omega)
    have hl1 : (xs.drop k).length ≤ 100000 := by rw [List.length_drop]; omega
    have hl2 : (xs.take k).length ≤ 100000 := by rw [List.length_take]; omega
    have HI1 : Hid (∀ w, Fr0 W w → IntsAt w A1 (xs.drop k)) := Lib.hid (fun w f => hi1 w (h.fr0 f))
    have HI2 : Hid (∀ w, Fr0 W w → IntsAt w A (xs.take k)) := Lib.hid (fun w f => (h.fr0 f).take k)
    have HP1 := Lib.hid hp1
    have HP2 := Lib.hid hp2
    have hk' : (k : Int) ≤ (xs.length : Int) := by omega
    have e0 : ((xs.length : Int) == 0) = false := by rw [beq_eq_false_iff_ne]; omega
    clear hi1 h hp hp1 hp2
    generalize xs.drop k = ys at *
    generalize xs.take k = zs at *
    have HC : Hid (∀ w, Fr0 W w → ∀ w2, w2 = (w.alloc (.cells #[.slice A1 ys.length c1, .slice A zs.length c] 23)) → ∀ w3, Fr0 w2 w3 → Calls Try.prog 29 #[.slice (some ⟨w.heap.size, 0, none⟩) 2 2] w3 (Rets (IListPost w3 (ys ++ zs)))) := Lib.hid (fun w f w2 hw2 w3 f3 => by
      obtain ⟨q0, q1⟩ := two_cells w (.slice A1 ys.length c1) (.slice A zs.length c) 23
      rw [← hw2] at q0 q1
      have F2 : Fr0 W w2 := by rw [hw2]; exact f.alloc _
      exact ConcatI_is (f3.cell q0 (fun x => x)) (f3.cell q1 (fun x => x)) (HI1.out _ (F2.trans0 f3)) (HI2.out _ (F2.trans0 f3)) HP1.out HP2.out hl1 hl2)
    go_enter Try.func12, Try.ntmps12
    go_upto_region 4 with (first | (go_at_call 27; refine (HI.out _ hf1).mono ?_; rintro e w2 ⟨_, rfl, rfl, hf2⟩) | (go_at_call 28; refine (HM.out).mono ?_; rintro e w1 ⟨_, rfl, rfl, hf1⟩))
    have hsz2 : w2.drew.heap.size = w2.heap.size := rfl
    go_region_with (go_at_call 29; refine (HC.out w2 (hf1.trans0 hf2) _ rfl _ (fr_drew _ _)).mono ?_; rintro e w4 ⟨v4, rfl, hf4, ho4⟩)
    go_wp2_with fail
    go_ret
    rw [HT.out]
    have F := (hf1.trans0 hf2)
    have F2 : Fr0 W w4 := ((F.alloc _).drew).trans0 hf4
    exact ⟨_, rfl, F2, own_baseT ho4 ((F.alloc _).drew).size⟩
  · have : xs = [] := List.eq_nil_of_length_eq_zero (by omega)
    subst this
    go_enter Try.func12, Try.ntmps12
    go_wp2_with fail
    go_ret
    exact ⟨_, rfl, Fr.refl _ _, own_nil _ _ _ _⟩
end Go.Proofs.Ytidpmbbkpclccaa
