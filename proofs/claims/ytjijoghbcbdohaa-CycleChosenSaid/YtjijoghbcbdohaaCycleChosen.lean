/- CycleChosen walked. -/
import Derived.Test.YtjijoghbcbdohaaWorks26
namespace Go.Proofs.Ytjijoghbcbdohaa
set_option linter.all false
open Go.RowKit
set_option maxRecDepth 100000

/-! ### the least label of a mask, and the greatest one -/
def stepLG (m x : Int) (s : Int × Int) : Int × Int := (if (bits .and .i64 m x != 0) = true then x else s.1, if s.2 < bits .and .i64 m x then x else s.2)
def remLG (m x : Int) (s : Int × Int) : Int × Int :=
  if x = 4 then stepLG m 1 (stepLG m 2 (stepLG m 4 s)) else if x = 2 then stepLG m 1 (stepLG m 2 s) else if x = 1 then stepLG m 1 s else s
def finLG (m : Int) : Int × Int := remLG m 4 (0, 0)
theorem remLG_step {m x : Int} (hx : x = 4 ∨ x = 2 ∨ x = 1) (s : Int × Int) : remLG m x s = remLG m (Int.tdiv x 2) (stepLG m x s) := by
  rcases hx with rfl | rfl | rfl <;> simp [remLG]
theorem fin_ok (m : Int) : (((finLG m).1 = 1 ∨ (finLG m).1 = 2 ∨ (finLG m).1 = 4) ∧ btM m (finLG m).1 = true ∨ (finLG m).1 = 0) ∧ (((finLG m).2 = 1 ∨ (finLG m).2 = 2 ∨ (finLG m).2 = 4) ∧ btM m (finLG m).2 = true ∨ (finLG m).2 = 0) := by
  have b1 : bits .and .i64 m 1 = ((low3 m &&& 1 : Nat) : Int) := and_low m (c := 1) (by decide)
  have b2 : bits .and .i64 m 2 = ((low3 m &&& 2 : Nat) : Int) := and_low m (c := 2) (by decide)
  have b4 : bits .and .i64 m 4 = ((low3 m &&& 4 : Nat) : Int) := and_low m (c := 4) (by decide)
  have hl := low3_lt m
  generalize low3 m = w at *
  have hw : w = 0 ∨ w = 1 ∨ w = 2 ∨ w = 3 ∨ w = 4 ∨ w = 5 ∨ w = 6 ∨ w = 7 := by omega
  rcases hw with rfl | rfl | rfl | rfl | rfl | rfl | rfl | rfl <;> simp at b1 b2 b4 <;> simp [finLG, remLG, stepLG, b1, b2, b4, btM]
theorem lab_map {f : Int → Int} (hf : ∀ m, (f m = 1 ∨ f m = 2 ∨ f m = 4) ∧ btM m (f m) = true ∨ f m = 0) : ∀ {xs : List Int}, (∀ m ∈ xs, f m ≠ 0) → Lab btM xs (xs.map f)
  | [], _ => trivial
  | m :: ms, h => ⟨((hf m).resolve_right (h m (by simp))).1, ((hf m).resolve_right (h m (by simp))).2, lab_map hf (fun y hy => h y (by simp [hy]))⟩
theorem fits_no {kind : Int} {xs : List Int} (hd : labD kind xs = none) {f : Int → Int} (hf : ∀ m, (f m = 1 ∨ f m = 2 ∨ f m = 4) ∧ btM m (f m) = true ∨ f m = 0) : fitsD kind (xs.map f) = false := by
  by_cases h : ∀ m ∈ xs, f m ≠ 0
  · exact afterC_none hd _ (lab_map hf h)
  · simp only [Classical.not_forall, ne_eq, Classical.not_not] at h
    obtain ⟨m, hm, h0⟩ := h
    cases hk : needK kind with
    | none => exact fits_none hk _
    | some n =>
      cases hfd : fitsD kind (xs.map f) with
      | false => rfl
      | true =>
        have := (((fits_some hk _).1 hfd).2.1 (f m) (List.mem_map_of_mem hm)).1
        rw [h0] at this
        omega
theorem lab_get : ∀ {ms l : List Int}, Lab btM ms l → ∀ k, k < l.length → bits .and .i64 (l.getD k 0) (ms.getD k 0) = l.getD k 0
  | [], [], _, k, hk => by cases hk
  | [], _ :: _, h, _, _ => h.elim
  | _ :: _, [], _, k, hk => by cases hk
  | m :: ms, x :: l, h, 0, _ => by
    obtain ⟨hx, hb, _⟩ := h
    simp only [List.getD_cons_zero]
    have h1 : btM m 1 = decide (low3 m &&& 1 ≠ 0) := btM_low m (c := 1) (by decide)
    have h2 : btM m 2 = decide (low3 m &&& 2 ≠ 0) := btM_low m (c := 2) (by decide)
    have h4 : btM m 4 = decide (low3 m &&& 4 ≠ 0) := btM_low m (c := 4) (by decide)
    have b1 : bits .and .i64 1 m = ((low3 m &&& 1 : Nat) : Int) := and_low' m (c := 1) (by decide)
    have b2 : bits .and .i64 2 m = ((low3 m &&& 2 : Nat) : Int) := and_low' m (c := 2) (by decide)
    have b4 : bits .and .i64 4 m = ((low3 m &&& 4 : Nat) : Int) := and_low' m (c := 4) (by decide)
    have hl := low3_lt m
    generalize low3 m = w at *
    rcases hx with rfl | rfl | rfl
    · rw [h1] at hb; rw [b1]; clear h1 h2 h4 b1 b2 b4; revert hb hl w; decide
    · rw [h2] at hb; rw [b2]; clear h1 h2 h4 b1 b2 b4; revert hb hl w; decide
    · rw [h4] at hb; rw [b4]; clear h1 h2 h4 b1 b2 b4; revert hb hl w; decide
  | m :: ms, x :: l, h, k + 1, hk => by
    simp only [List.getD_cons_succ]
    exact lab_get h.2.2 k (by simpa using hk)
/-! ### one number appended to a row of one's own -/
section
variable {ops : Array Oper} {rest : List Oper} {o : Oper} {a : Act} {w : World} {Q : Exit → Act → World → Prop}
theorem wpList_append_one (hgd : o.guard = none) (s x : Operand) (ho : o.op = .call { callee := .builtin .append, args := #[s, x], argTypes := #[22, 22] })
    {N B : Nat} {v : Value} {L : List Int} {y : Int} (hs : a.eval s = v) (hx : a.eval x = .slice (some ⟨N, 0, none⟩) 1 1) (hN : w.heap[N]? = some (.cells #[.int .i64 y] 3 (0, 0))) (hown : w.ownsRow B 3 1 v L.length (intsI L)) (hb : L.length ≤ 1000000) (hB : B ≤ w.heap.size)
    (h : ∀ v' w', w'.ownsRow B 3 1 v' (L ++ [y]).length (intsI (L ++ [y])) → Fr (fun k => v.ownBlock = some k) w w' → (v'.ownBlock = v.ownBlock ∨ v'.ownBlock = some w.heap.size) → wpList Try.prog ops Q rest (a.put o.dst v') w') :
    wpList Try.prog ops Q (o :: rest) a w := by
  obtain ⟨i0, hi, hz0, hz1, hz2⟩ := info_parts info_int
  have hy : IntsAt w (some ⟨N, 0, none⟩) [y] := ints_lit (l := [y]) hN (by simp)
  obtain ⟨v', w', hr, h1, h2, _, h3⟩ := run_append_own_at (P := Try.prog) w B 22 o.type 3 i0 (.int .i64 0) 1 8 Try.underlying22 hi hz0 hz1 hz2 rfl (by decide) v L.length (intsI L) hown ⟨N, 0, none⟩ 1 1 (intsI [y]) (by simp [intsI]) (ints_news hy) (intsI_one _) (by unfold maxLen; omega) (by omega) hB
  have e : (L ++ [y]).length = L.length + 1 := by simp
  refine wpList_append_run hgd s x _ ho hs hx hr (h v' w' ?_ (append_fr0 hown h2) h3)
  rw [e, ← intsI_snoc]; exact h1
end
set_option maxHeartbeats 8000000 in
theorem CycleChosen_is {W : World} {kind : Int} (hw : (Lit.int .i64 kind).wf = true) {A : Option Addr} {c : Nat} {xs : List Int} (hx : IntsAt W A xs) (hp : Plain A xs.length c) (hcp : xs.length ≤ c) :
    Calls Try.prog 7 #[.int .i64 kind, .slice A xs.length c] W (Rets (SamePost true W)) := by
  by_cases hbig : (300 : Int) < (xs.length : Int)
  · go_enter Try.func7, Try.ntmps7
    go_wp2_with (go_at_call 8; refine (works26_is _).mono ?_; rintro e w' ⟨_, rfl, rfl, hf⟩)
    refine bodyPost_ret (results_tmp (t := 4) rfl _ _ _) rfl ?_
    exact ⟨_, rfl, rfl, hf⟩
  · have hlab := labels_same kind (xs := xs) (by omega)
    have hsm : xs.length ≤ 300 := by omega
    cases hd : labD kind xs with
    | some l =>
      have HA := Lib.hid (Labels_yes (cp := c) hw hx hp hcp (by omega) (hlab.trans hd))
      obtain ⟨hll, hfit, hget⟩ : l.length = xs.length ∧ fitsD kind l = true ∧ ∀ k, k < l.length → bits .and .i64 (l.getD k 0) (xs.getD k 0) = l.getD k 0 := by
        unfold labD at hd
        obtain ⟨l', rfl, hl', hf⟩ := afterC_some hd
        exact ⟨lab_len hl', hf, lab_get hl'⟩
      have HF := Lib.hid (fun (w : World) (A1 : Option Addr) (c1 : Nat) (h : IntsAt w A1 l) => hfit ▸ Fits26_is (c := c1) h (by omega) kind)
      have HG := Lib.hid hget
      have HX := Lib.hid hx
      have b0 : ((l.length : Int) != (xs.length : Int)) = false := by rw [hll]; simp
      have b1 : ((l.length : Int) == (xs.length : Int)) = true := by rw [hll]; simp
      have HLL := Lib.hid hll
      have hl3 : l.length ≤ 300 := by omega
      clear hx hp hcp hlab hd hll hfit hget
      unfold YesPost at HA
      go_enter Try.func7, Try.ntmps7
      go_wp2_with (go_at_call 18; refine (HA.out).mono ?_; rintro e w1 ⟨_, rfl, hf1, A1, c1, rfl, ho1⟩; have hi1 := own_intsI ho1 (Nat.le_trans hl3 (Nat.le_of_ble_eq_true rfl)))
      have HI1 := Lib.hid hi1
      clear hi1 ho1
      go_loopw [7] (fun v7 wr => ∃ k : Nat, k ≤ l.length ∧ v7 = .int .i64 k ∧ Fr0 w1 wr) (fun v7 _ => l.length - (intOf v7).toNat)
      case atStart => exact ⟨0, by omega, rfl, Fr.refl _ _⟩
      case round =>
        obtain ⟨k, hk, rfl, hf⟩ := hrel
        by_cases hlt : k < l.length
        · have hlt' : (k : Int) < (l.length : Int) := by omega
          have hlt2' : (k : Int) < (xs.length : Int) := by have := HLL.out; omega
          have hlt2 : k < xs.length := by omega
          obtain ⟨q1, o1, rfl, d1⟩ := (HI1.out.fr0 hf).at_ hlt
          obtain ⟨q2, o2, rfl, d2⟩ := (HX.out.fr0 (hf1.trans0 hf)).at_ hlt2
          have hbk := HG.out k hlt
          generalize l.getD k 0 = y at d1 hbk
          generalize xs.getD k 0 = m at d2 hbk
          go_wp2_with fail
          go_region
          go_wp2_with fail
          go_roundw
          case rel => exact ⟨k + 1, by omega, by go_num, hf.drew⟩
          case measure => simp [intOf]; omega
        · have hke : k = l.length := by omega
          subst hke
          have hge : ¬ (l.length : Int) < (l.length : Int) := by omega
          go_wp2_with (first
            | (go_at_call 8; refine (works26_is _).mono ?_; rintro e w' ⟨_, rfl, rfl, hf3⟩)
            | (go_at_call 17; refine (HF.out _ A1 c1 (HI1.out.fr0 hf)).mono ?_; rintro e w2 ⟨rfl, rfl⟩))
          refine bodyPost_ret (results_tmp (t := 4) rfl _ _ _) rfl ?_
          exact ⟨_, rfl, rfl, (hf1.trans0 hf).trans0 hf3⟩
    | none =>
      have HA := Lib.hid (Labels_no (cp := c) hw hx (by omega) (hlab.trans hd))
      have hn1 := fits_no hd (f := fun m => (finLG m).1) (fun m => (fin_ok m).1)
      have hn2 := fits_no hd (f := fun m => (finLG m).2) (fun m => (fin_ok m).2)
      have HX := Lib.hid hx
      have HF1 := Lib.hid (fun (w : World) (A1 : Option Addr) (c1 : Nat) (L : List Int) (hL : L = xs.map (fun m => (finLG m).1)) (hl : L.length ≤ 1000) (h : IntsAt w A1 L) => (hL ▸ hn1 : fitsD kind L = false) ▸ Fits26_is (c := c1) h (by omega) kind)
      have HF2 := Lib.hid (fun (w : World) (A1 : Option Addr) (c1 : Nat) (L : List Int) (hL : L = xs.map (fun m => (finLG m).2)) (hl : L.length ≤ 1000) (h : IntsAt w A1 L) => (hL ▸ hn2 : fitsD kind L = false) ▸ Fits26_is (c := c1) h (by omega) kind)
      clear hx hp hcp hlab hd hn1 hn2
      unfold NoPost at HA
      go_enter Try.func7, Try.ntmps7
      go_wp2_with (go_at_call 18; refine (HA.out).mono ?_; rintro e w1 ⟨_, rfl, rfl, hf1⟩)
      go_loopw [8, 9, 10, 11, 12, 13] (fun v8 v9 v10 v11 v12 v13 wr => ∃ (k : Nat) (La Lb : List Int), k ≤ xs.length ∧ v10 = .int .i64 k ∧ Hid (La = (xs.take k).map (fun m => (finLG m).1)) ∧ Hid (Lb = (xs.take k).map (fun m => (finLG m).2)) ∧ Fr0 w1 wr ∧ Hid (wr.ownsRow w1.heap.size 3 1 v8 La.length (intsI La)) ∧ Hid (wr.ownsRow w1.heap.size 3 1 v9 Lb.length (intsI Lb)) ∧ Hid (∀ q, v8.ownBlock = some q → v9.ownBlock ≠ some q)) (fun _ _ v10 _ _ _ _ => xs.length - (intOf v10).toNat)
      case atStart => exact ⟨0, [], [], by omega, rfl, Lib.hid rfl, Lib.hid rfl, Fr.refl _ _, Lib.hid (own_nil _ _ _ _), Lib.hid (own_nil _ _ _ _), Lib.hid (fun q hq => by cases hq)⟩
      case round =>
        obtain ⟨k, La, Lb, hk, rfl, HLa, HLb, hf, HOa, HOb, HNE⟩ := hrel
        by_cases hlt : k < xs.length
        · have hlt' : (k : Int) < (xs.length : Int) := by omega
          obtain ⟨q2, o2, rfl, d2⟩ := (HX.out.fr0 (hf1.trans0 hf)).at_ hlt
          have HT := Lib.hid (take_succ_I xs k hlt)
          generalize xs.getD k 0 = m at d2 HT
          go_wp2_with fail
          rename World => wo
          go_loopw [11, 12, 13] (fun v11 v12 v13 w2 => ∃ x l g : Int, (x = 4 ∨ x = 2 ∨ x = 1 ∨ x = 0) ∧ v13 = .int .i64 x ∧ v11 = .int .i64 l ∧ v12 = .int .i64 g ∧ Hid (remLG m x (l, g) = finLG m) ∧ wo = w2) (fun _ _ v13 _ => (intOf v13).toNat)
          case atStart => exact ⟨4, 0, 0, by omega, rfl, rfl, rfl, Lib.hid rfl, rfl⟩
          case round =>
            obtain ⟨x, l, g, hx, rfl, rfl, rfl, HR, rfl⟩ := hrel
            by_cases hx0 : x = 0
            · subst hx0
              have hfin : finLG m = (l, g) := HR.out.symm.trans rfl
              have HLa2 : Hid (La ++ [l] = (xs.take (k + 1)).map (fun m => (finLG m).1)) := Lib.hid (by rw [HT.out, List.map_append, ← HLa.out, List.map_singleton, hfin])
              have HLb2 : Hid (Lb ++ [g] = (xs.take (k + 1)).map (fun m => (finLG m).2)) := Lib.hid (by rw [HT.out, List.map_append, ← HLb.out, List.map_singleton, hfin])
              have hla : La.length ≤ 1000 := by rw [HLa.out, List.length_map, List.length_take]; omega
              have hlb : Lb.length ≤ 1000 := by rw [HLb.out, List.length_map, List.length_take]; omega
              have hsz := hf.size
              clear hfin
              go_wp2_with (first
                | (at_builtin; refine wpList_append_one rfl (.tmp 96) (.tmp 98) rfl (B := w1.heap.size) (L := Lb) (y := g) rfl rfl (World.alloc_heap_new _ _) (own_fr0 HOb3.out (fr_alloc _ _ _)) (Nat.le_trans hlb (Nat.le_of_ble_eq_true rfl)) (Fr.size (hF3.alloc _)) ?_; intro vb w4 hob4 hfr4 hor4)
                | (at_builtin; refine wpList_append_one rfl (.tmp 92) (.tmp 94) rfl (B := w1.heap.size) (L := La) (y := l) rfl rfl (World.alloc_heap_new _ _) (own_fr0 HOa.out (fr_alloc _ _ _)) (Nat.le_trans hla (Nat.le_of_ble_eq_true rfl)) (Fr.size (hf.alloc _)) ?_; intro va w3 hoa3 hfr3 hor3; have hF3 : Fr0 w1 w3 := (hf.alloc _).trans hfr3 (fun j hj e => own_old HOa.out hj e); have HOb3 := Lib.hid (own_fr (own_fr0 HOb.out (fr_alloc _ _ _)) hfr3 (fun q hq e => HNE.out q e hq))))
              go_roundw
              case rel =>
                have hne3 : ∀ q, va.ownBlock = some q → u9.ownBlock ≠ some q := by
                  intro q hq e
                  rcases hor3 with h | h
                  · rw [h] at hq; exact HNE.out q hq e
                  · rw [h] at hq
                    have := (own_blk HOb.out e).2.1
                    have hsa := (fr_alloc (fun _ => False) wo (.cells #[.int .i64 l] 3)).size
                    cases hq
                    omega
                have hF4 : Fr0 w1 w4 := (hF3.alloc _).trans hfr4 (fun j hj e => own_old HOb3.out hj e)
                have hoa4 := own_fr (own_fr0 hoa3 (fr_alloc _ _ _)) hfr4 (fun q hq e => hne3 q hq e)
                refine ⟨k + 1, La ++ [l], Lb ++ [g], by omega, by go_num, HLa2, HLb2, hF4, Lib.hid hoa4, Lib.hid hob4, Lib.hid (fun q hq e => ?_)⟩
                rcases hor4 with h | h
                · rw [h] at e; exact hne3 q hq e
                · rw [h] at e
                  have := (own_blk hoa3 hq).2.1
                  have hsa := (fr_alloc (fun _ => False) w3 (.cells #[.int .i64 g] 3)).size
                  cases e
                  omega
              case measure => simp [intOf]; omega
            · have hx3 : x = 4 ∨ x = 2 ∨ x = 1 := by omega
              obtain ⟨y, hy, hy2⟩ : ∃ y, Int.tdiv x 2 = y ∧ (y = 2 ∨ y = 1 ∨ y = 0) ∧ y < x := by
                rcases hx3 with rfl | rfl | rfl
                · exact ⟨2, by decide, by omega, by omega⟩
                · exact ⟨1, by decide, by omega, by omega⟩
                · exact ⟨0, by decide, by omega, by omega⟩
              have hxp : 0 < x := by omega
              have hwy : IntKind.i64.wrap y = y := by rw [IntKind.wrap_i64]; omega
              have hst := remLG_step hx3 (m := m) (l, g)
              rw [hy] at hst
              obtain ⟨u, hu⟩ : ∃ u, bits .and .i64 m x = u := ⟨_, rfl⟩
              unfold stepLG at hst
              rw [hu] at hst
              simp only at hst
              cases bx : (u != 0) with
              | true =>
                by_cases hg : g < u
                · rw [bx, if_pos rfl, if_pos hg] at hst
                  have HS := Lib.hid hst
                  clear hst hx
                  go_wp2_with fail
                  go_roundw
                  case rel => exact ⟨y, x, x, by omega, by first | rfl | go_num, by first | rfl | go_num, by first | rfl | go_num, Lib.hid (HR.out.symm.trans HS.out).symm, by first | rfl | trivial⟩
                  case measure => simp [intOf]; omega
                · rw [bx, if_pos rfl, if_neg hg] at hst
                  have HS := Lib.hid hst
                  clear hst hx
                  go_wp2_with fail
                  go_roundw
                  case rel => exact ⟨y, x, g, by omega, by first | rfl | go_num, by first | rfl | go_num, by first | rfl | go_num, Lib.hid (HR.out.symm.trans HS.out).symm, by first | rfl | trivial⟩
                  case measure => simp [intOf]; omega
              | false =>
                by_cases hg : g < u
                · rw [bx, if_neg (by simp), if_pos hg] at hst
                  have HS := Lib.hid hst
                  clear hst hx
                  go_wp2_with fail
                  go_roundw
                  case rel => exact ⟨y, l, x, by omega, by first | rfl | go_num, by first | rfl | go_num, by first | rfl | go_num, Lib.hid (HR.out.symm.trans HS.out).symm, by first | rfl | trivial⟩
                  case measure => simp [intOf]; omega
                · rw [bx, if_neg (by simp), if_neg hg] at hst
                  have HS := Lib.hid hst
                  clear hst hx
                  go_wp2_with fail
                  go_roundw
                  case rel => exact ⟨y, l, g, by omega, by first | rfl | go_num, by first | rfl | go_num, by first | rfl | go_num, Lib.hid (HR.out.symm.trans HS.out).symm, by first | rfl | trivial⟩
                  case measure => simp [intOf]; omega
        · have hke : k = xs.length := by omega
          subst hke
          have hge : ¬ (xs.length : Int) < (xs.length : Int) := by omega
          obtain ⟨Aa, ca, rfl⟩ := own_form HOa.out
          obtain ⟨Ab, cb, rfl⟩ := own_form HOb.out
          have hla : La.length ≤ 1000 := by rw [HLa.out, List.length_map, List.length_take]; omega
          have hlb : Lb.length ≤ 1000 := by rw [HLb.out, List.length_map, List.length_take]; omega
          have HLa2 := Lib.hid HLa.out
          rw [List.take_length] at HLa2
          have HLb2 := Lib.hid HLb.out
          rw [List.take_length] at HLb2
          go_wp2_with (first
            | (go_at_call 8; refine (works26_is _).mono ?_; rintro e w' ⟨_, rfl, rfl, hf3⟩)
            | (go_at_call 17; (with_reducible refine (HF2.out _ Ab cb Lb HLb2.out hlb (own_intsI HOb.out (Nat.le_trans hlb (Nat.le_of_ble_eq_true rfl)))).mono ?_); rintro e w2 ⟨rfl, rfl⟩)
            | (go_at_call 17; (with_reducible refine (HF1.out _ Aa ca La HLa2.out hla (own_intsI HOa.out (Nat.le_trans hla (Nat.le_of_ble_eq_true rfl)))).mono ?_); rintro e w2 ⟨rfl, rfl⟩))
          refine bodyPost_ret (results_tmp (t := 4) rfl _ _ _) rfl ?_
          exact ⟨_, rfl, rfl, (hf1.trans0 hf).trans0 hf3⟩
end Go.Proofs.Ytjijoghbcbdohaa
