/- The program's sets of whole numbers: what is in one of two; a set and some numbers; from a number on. -/
import Derived.Test.YtekigojbkhjdbaaSetsC
namespace Go.Proofs.Ytekigojbkhjdbaa
set_option linter.all false
open Go.RowKit Go.Sort Go.Shelf
attribute [local go_sem] Oper.semAt_some
set_option maxRecDepth 100000

/-- The rest of a slice. -/
theorem slice_tail {A : Option Addr} {c i : Nat} {zs : List Int} (hp : Plain A zs.length c) (hc : zs.length ≤ c) (hi : i ≤ zs.length) :
    ∃ A' c', (∀ wx, (Instr.slice 41 (.slice A zs.length c) (some (.int .i64 (i : Int))) none none).run Try.prog wx = .ok (.slice A' (zs.drop i).length c') wx) ∧ Plain A' (zs.drop i).length c' ∧ (zs.drop i).length ≤ c' ∧
      ∀ w, IntsAt w A zs → IntsAt w A' (zs.drop i) := by
  refine ⟨if c = i then A else A.map (·.add (i * 1)), c - i, fun wx => ?_, ?_, by rw [List.length_drop]; omega, fun w h => ⟨by rw [List.length_drop]; have := h.1; omega, ?_⟩⟩
  · rw [run_slice_l (P := Try.prog) wx 41 A zs.length c elem_ints .i64 (i : Int) (by omega) (by omega)]
    go_simp
  · intro hA
    have : A = none := by
      cases A with
      | none => rfl
      | some a => split at hA <;> cases hA
    have := hp this
    rw [List.length_drop]; omega
  · by_cases hci : c = i
    · left; rw [List.drop_eq_nil_iff]; omega
    · rw [if_neg hci]
      rcases h.2 with rfl | ⟨b, o, rfl, hcc⟩
      · left; simp
      · refine .inr ⟨b, o + i, by simp [Addr.add], fun j hj => ?_⟩
        rw [List.length_drop] at hj
        rw [Nat.add_assoc, hcc (i + j) (by omega)]
        simp [List.getD_eq_getElem?_getD, List.getElem?_drop]
theorem make_zero (n : Nat) (h1 : n ≤ 1000000000) (w : World) : (Instr.makeSlice 41 (.int .i64 0) (.int .i64 (n : Int))).run Try.prog w =
    .ok (.slice (some ⟨w.heap.size, 0, none⟩) 0 n) (w.alloc (.cells (intsI (List.replicate n 0)).toArray 3)) := by
  obtain ⟨i0, hi, hz0, hz1, hz2⟩ := info_parts info_int
  rw [run_make (P := Try.prog) w 41 3 i0 (.int .i64 0) Try.underlying41 hi hz0 .i64 .i64 0 n (by omega) (by omega) (by rw [hz2]; omega) (by omega), hz1]
  have : madeCells (Value.int .i64 0).cells ((n : Int).toNat * 1) = (intsI (List.replicate n 0)).toArray := by
    apply Array.ext'
    simp only [madeCells, intsI, Value.cells, Nat.mul_one]
    apply List.ext_getElem
    · simp
    · intro i h1 h2
      simp [Nat.mod_one]
  rw [this]
  simp
theorem mi_len {zs ts out : List Int} {i j : Nat} (hz : zs.Pairwise (· < ·)) (ht : ts.Pairwise (· < ·)) (h : MI (fun a b : Int => a < b) zs ts i j out) (hi : i ≤ zs.length) (hj : j ≤ ts.length) : out.length ≤ i + j := by
  have e : out = ofI (zs.take i ++ ts.take j) := rise_extI h.rise (rise_ofI _) (fun x => by rw [mem_ofI, List.mem_append]; exact h.mem x)
  rw [e]
  refine Nat.le_trans (len_ofI _) ?_
  rw [List.length_append, List.length_take, List.length_take]; omega
set_option maxHeartbeats 8000000 in
theorem SOr_is {W : World} {A B : Option Addr} {c d : Nat} {zs ts : List Int} (h1 : SetAt W A c zs) (h2 : SetAt W B d ts) (hsum : zs.length + ts.length ≤ 1000000) :
    Calls Try.prog 75 #[setV A zs.length c, setV B ts.length d] W (Rets (SetPost W (ofI (zs ++ ts)))) := by
  obtain ⟨i0, hi0, hz0, hz1, hz2⟩ := info_parts info_int
  obtain ⟨w0, hw0⟩ : ∃ w0, ((W.alloc (.cells #[.slice A zs.length c] 76)).alloc (.cells #[.slice B ts.length d] 76)).alloc (.cells #[.slice none 0 0] 76) = w0 := ⟨_, rfl⟩
  have hf0 : Fr0 W w0 := hw0 ▸ ((fr_alloc _ _ _).alloc _).alloc _
  have hs0 : w0.heap.size = W.heap.size + 3 := by rw [← hw0]; simp
  have hb0 : Box w0 W.heap.size 76 (.slice A zs.length c) := hw0 ▸ (Box.new W _ _).fr0 ((fr_alloc _ _ _).alloc _)
  have hb1 : Box w0 (W.heap.size + 1) 76 (.slice B ts.length d) := by
    have := Box.new (W.alloc (.cells #[.slice A zs.length c] 76)) 76 (.slice B ts.length d)
    rw [World.size_alloc] at this
    exact hw0 ▸ this.fr0 (fr_alloc _ _ _)
  have hb2 : Box w0 (W.heap.size + 1 + 1) 76 (.slice none 0 0) := by
    have := Box.new ((W.alloc (.cells #[.slice A zs.length c] 76)).alloc (.cells #[.slice B ts.length d] 76)) 76 (.slice none 0 0)
    rw [World.size_alloc, World.size_alloc] at this
    exact hw0 ▸ this
  have HZ := Lib.hid (h1.fr0 hf0)
  have HT := Lib.hid (h2.fr0 hf0)
  have HW := Lib.hid hw0
  have hmk : ∀ w, (Instr.makeSlice 41 (.int .i64 0) (.int .i64 ((zs.length : Int) + (ts.length : Int)))).run Try.prog w = .ok (.slice (some ⟨w.heap.size, 0, none⟩) 0 (zs.length + ts.length)) (w.alloc (.cells (intsI (List.replicate (zs.length + ts.length) 0)).toArray 3)) := fun w => by
    have := make_zero (zs.length + ts.length) (by omega) w
    rwa [show ((zs.length + ts.length : Nat) : Int) = (zs.length : Int) + (ts.length : Int) by omega] at this
  have hl1 := h1.small
  have hl2 := h2.small
  have hl1' : (zs.length : Int) ≤ 1000000 := by omega
  have hl2' : (ts.length : Int) ≤ 1000000 := by omega
  clear h1 h2 hw0
  go_enter Try.func75, Try.ntmps75
  go_wp2
  rw [HW.out]
  have hown0 : (w0.alloc (.cells (intsI (List.replicate (zs.length + ts.length) 0)).toArray 3)).ownsRow w0.heap.size 3 1 (.slice (some ⟨w0.heap.size, 0, none⟩) 0 (zs.length + ts.length)) 0 (intsI []) :=
    World.ownsRow_made w0 _ _ (Nat.le_refl _) (by unfold maxLen; omega) (by simp [intsI])
  go_loopw [5, 6, 7, 8] (fun v5 v6 v7 v8 wr => ∃ (i j : Nat) (out : List Int), i ≤ zs.length ∧ j ≤ ts.length ∧ v6 = .int .i64 i ∧ v7 = .int .i64 j ∧ Hid (MI (fun a b : Int => a < b) zs ts i j out) ∧ Fr0 w0 wr ∧ wr.ownsRow w0.heap.size 3 1 v5 out.length (intsI out)) (fun _ v6 v7 _ _ => (zs.length - (intOf v6).toNat) + (ts.length - (intOf v7).toNat))
  case atStart => exact ⟨0, 0, [], by omega, by omega, rfl, rfl, Lib.hid (MI.zero _ _), fr_alloc _ _ _, by rw [show W.heap.size + 1 + 1 + 1 = w0.heap.size by omega]; exact hown0⟩
  case round =>
    obtain ⟨i, j, out, hi, hj, rfl, rfl, HM, hf, ho⟩ := hrel
    have z0 := (hb0.fr0 hf).cell
    have z1 := (hb1.fr0 hf).cell
    have hol := mi_len HZ.out.rise HT.out.rise HM.out hi hj
    have hsz := hf.size
    obtain ⟨A5, c5, rfl⟩ := own_form ho
    by_cases hij : i < zs.length ∧ j < ts.length
    · obtain ⟨hi2, hj2⟩ := hij
      have hi2' : (i : Int) < (zs.length : Int) := by omega
      have hj2' : (j : Int) < (ts.length : Int) := by omega
      obtain ⟨b, o, rfl, hc1⟩ := (HZ.out.ints.fr0 hf).at_ hi2
      obtain ⟨b', o', rfl, hc2⟩ := (HT.out.ints.fr0 hf).at_ hj2
      have ez : zs.getD i 0 = zs[i] := by rw [List.getD_eq_getElem?_getD, List.getElem?_eq_getElem hi2]; rfl
      have et : ts.getD j 0 = ts[j] := by rw [List.getD_eq_getElem?_getD, List.getElem?_eq_getElem hj2]; rfl
      have HML := Lib.hid (fun h => HM.out.left lin_int HZ.out.rise HT.out.rise hi2 hj2 h)
      have HMR := Lib.hid (fun h => HM.out.right lin_int HZ.out.rise HT.out.rise hi2 hj2 h)
      have HMB := Lib.hid (fun h => HM.out.both HZ.out.rise HT.out.rise hi2 hj2 h)
      rw [← ez, ← et] at HML HMR HMB
      generalize zs.getD i 0 = x at hc1 HML HMR HMB ez
      generalize ts.getD j 0 = y at hc2 HML HMR HMB et
      clear ez et
      go_wp2_with fail
      go_quiet ((go_at_call 79; exact Calls.quiet_of_same (Try.cmp_Compare_int _ _ _)))
      obtain ⟨wq, hwq⟩ : ∃ wq, wr.drewN nq = wq := ⟨_, rfl⟩
      have hfr : Fr0 wr wq := hwq ▸ fr_drewN _ _ _
      have hfq : Fr0 w0 wq := hf.trans0 hfr
      have ho2 := own_fr0 ho hfr
      have hsq := hfq.size
      have z0 := (hb0.fr0 hfq).cell
      have z1 := (hb1.fr0 hfq).cell
      have hc1 := hfr.cell hc1 (fun x => x)
      have hc2 := hfr.cell hc2 (fun x => x)
      rw [hwq]
      clear hwq ho z0 z1
      have z0 := (hb0.fr0 hfq).cell
      have z1 := (hb1.fr0 hfq).cell
      rcases Int.lt_trichotomy x y with hxy | rfl | hxy
      · have hcmp : Lib.compareInt x y = -1 := by rw [Lib.compareInt, if_pos hxy]
        rw [hcmp]
        go_wp2_with (at_builtin; refine wpList_append_own _ rfl _ _ 41 rfl w0.heap.size 3 i0 (.int .i64 0) 1 8 Try.underlying41 hi0 hz0 hz1 hz2 rfl (by decide) _ _ _ rfl (ho2.alloc _) ⟨wq.heap.size, 0, none⟩ 1 1 [.int .i64 x] rfl rfl (cell_one_new _ _ _) (by simp [Value.oneCell']) (by unfold maxLen; omega) (by omega) (by simp; omega) ?_; intro v' w3 hown' hgrow _; obtain ⟨g', cap', rfl⟩ := ownsRow_succ hown')
        have hf3 : Fr0 w0 w3 := hfq.trans (append_fr ho2 hgrow) (fun j hj e => own_old ho2 hj e)
        go_roundw
        case rel => exact ⟨i + 1, j, _, by omega, by omega, by go_num, by go_num, Lib.hid (HML.out hxy), hf3, by simpa [intsI] using hown'⟩
        case measure => simp [intOf]; omega
      · have hcmp : Lib.compareInt x x = 0 := by rw [Lib.compareInt, if_neg (by omega), if_neg (by omega)]
        rw [hcmp]
        go_wp2_with (at_builtin; refine wpList_append_own _ rfl _ _ 41 rfl w0.heap.size 3 i0 (.int .i64 0) 1 8 Try.underlying41 hi0 hz0 hz1 hz2 rfl (by decide) _ _ _ rfl (ho2.alloc _) ⟨wq.heap.size, 0, none⟩ 1 1 [.int .i64 x] rfl rfl (cell_one_new _ _ _) (by simp [Value.oneCell']) (by unfold maxLen; omega) (by omega) (by simp; omega) ?_; intro v' w3 hown' hgrow _; obtain ⟨g', cap', rfl⟩ := ownsRow_succ hown')
        have hf3 : Fr0 w0 w3 := hfq.trans (append_fr ho2 hgrow) (fun j hj e => own_old ho2 hj e)
        go_roundw
        case rel => exact ⟨i + 1, j + 1, _, by omega, by omega, by go_num, by go_num, Lib.hid (HMB.out rfl), hf3, by simpa [intsI] using hown'⟩
        case measure => simp [intOf]; omega
      · have hcmp : Lib.compareInt x y = 1 := by rw [Lib.compareInt, if_neg (by omega), if_pos (by omega)]
        rw [hcmp]
        go_wp2_with (at_builtin; refine wpList_append_own _ rfl _ _ 41 rfl w0.heap.size 3 i0 (.int .i64 0) 1 8 Try.underlying41 hi0 hz0 hz1 hz2 rfl (by decide) _ _ _ rfl (ho2.alloc _) ⟨wq.heap.size, 0, none⟩ 1 1 [.int .i64 y] rfl rfl (cell_one_new _ _ _) (by simp [Value.oneCell']) (by unfold maxLen; omega) (by omega) (by simp; omega) ?_; intro v' w3 hown' hgrow _; obtain ⟨g', cap', rfl⟩ := ownsRow_succ hown')
        have hf3 : Fr0 w0 w3 := hfq.trans (append_fr ho2 hgrow) (fun j hj e => own_old ho2 hj e)
        go_roundw
        case rel => exact ⟨i, j + 1, _, by omega, by omega, by go_num, by go_num, Lib.hid (HMR.out hxy), hf3, by simpa [intsI] using hown'⟩
        case measure => simp [intOf]; omega
    · have he : zs.length ≤ i ∨ ts.length ≤ j := by omega
      obtain ⟨hdr, hdm⟩ := HM.out.done HZ.out.rise HT.out.rise he
      have hres : out ++ zs.drop i ++ ts.drop j = ofI (zs ++ ts) := rise_extI hdr (rise_ofI _) (fun x => (hdm x).trans (by rw [mem_ofI, List.mem_append]))
      have hlz : (zs.drop i).length = zs.length - i := List.length_drop
      have hlt : (ts.drop j).length = ts.length - j := List.length_drop
      obtain ⟨A', c', hsl1, hp1, _, hi1⟩ := slice_tail HZ.out.plain HZ.out.cap hi
      obtain ⟨B', d', hsl2, hp2, _, hi2⟩ := slice_tail HT.out.plain HT.out.cap hj
      have HI1 := Lib.hid (fun w f => hi1 w (HZ.out.ints.fr0 f))
      have HI2 := Lib.hid (fun w f => hi2 w (HT.out.ints.fr0 f))
      have hrl : (ofI (zs ++ ts)).Pairwise (· < ·) := rise_ofI _
      have hLl : (ofI (zs ++ ts)).length ≤ 1000000 := by refine Nat.le_trans (len_ofI _) ?_; rw [List.length_append]; omega
      generalize hLL : ofI (zs ++ ts) = L at hres hrl hLl
      have HLL := Lib.hid hLL
      have HRES := Lib.hid hres
      have HRL := Lib.hid hrl
      clear hLL hdr hdm hres hrl hi1 hi2 HM hlz hlt
      generalize zs.drop i = zr at hsl1 hp1 HI1 HRES
      generalize ts.drop j = tr at hsl2 hp2 HI2 HRES
      have z2 := (hb2.fr0 hf).cell
      have y2 := (hb2.fr0 hf).frozen
      have HKS := Lib.hid (show ∀ w', Fr (fun k => W.heap.size + 1 + 1 ≤ k) wr w' → (w'.cell? ⟨W.heap.size, 0, none⟩ = some (.slice A zs.length c) ∧ w'.cell? ⟨W.heap.size + 1, 0, none⟩ = some (.slice B ts.length d)) from fun w' f => ⟨f.cell z0 (by show ¬ _ ≤ W.heap.size; omega), f.cell z1 (by show ¬ _ ≤ W.heap.size + 1; omega)⟩)
      have hij2 : (i : Int) < (zs.length : Int) → ¬ (j : Int) < (ts.length : Int) := by omega
      have HB2 := Lib.hid hb2
      have HB0 := Lib.hid hb0
      have HB1 := Lib.hid hb1
      have hlr : out.length + zr.length + tr.length ≤ 1000000 := by
        have := congrArg List.length HRES.out
        rw [List.length_append, List.length_append] at this
        omega
      clear hb0 hb1 hb2
      by_cases hi2 : (i : Int) < (zs.length : Int)
      · have hj2 := hij2 hi2
        clear hij2
        go_wp2_with fail
        clear z0 z1
        go_region_held_law (fun w' => w'.cell? ⟨W.heap.size, 0, none⟩ = some (.slice A zs.length c) ∧ w'.cell? ⟨W.heap.size + 1, 0, none⟩ = some (.slice B ts.length d))
          (first | exact HKS.out _ (fr_drew _ _) | exact HKS.out _ hG2 | exact HKS.out _ hG1 | exact HKS.out _ (hG2.trans (fr_setCell (S := fun k => k = W.heap.size + 1 + 1) _ _ _ (fun _ => rfl)) (fun _ _ e => by omega)))
          (first
            | (refine step_append_ints (B := w0.heap.size) (xs := out ++ zr) (ys := tr) (A := B') (c := d') rfl _ _ rfl rfl rfl hp2 (by rw [List.length_append]; omega) (by have := hG1.size; omega) hown1 (HI2.out _ hF1) ?_; intro v2 w2 hown2 hf2; rw [HRES.out] at hown2; obtain ⟨A2, c2, rfl⟩ := own_form hown2; have hG2 : Fr (fun k => W.heap.size + 1 + 1 ≤ k) wr w2 := hG1.trans hf2 (fun k _ e => by have := (own_blk hown1 e).1; omega); have hb9 : Box w2 (W.heap.size + 1 + 1) 76 (.slice none 0 0) := HB2.out.fr0 (hF1.trans hf2 (fun j hj e => own_old hown1 hj e)); have hc9 := hb9.cell; have hz9 := hb9.frozen)
            | (refine step_append_ints (B := w0.heap.size) (xs := out) (ys := zr) (A := A') (c := c') rfl _ _ rfl rfl rfl hp1 (by omega) (by simpa using hsz) (own_fr0 ho (fr_drew _ _)) (HI1.out _ (hf.drew)) ?_; intro v1 w1 hown1 hf1; obtain ⟨A1, c1, rfl⟩ := own_form hown1; have hG1 : Fr (fun k => W.heap.size + 1 + 1 ≤ k) wr w1 := (fr_drew _ _).trans hf1 (fun k _ e => by have := (own_blk ho e).1; omega); have hF1 : Fr0 w0 w1 := hf.drew.trans hf1 (fun j hj e => own_old ho hj e)))
        go_wp2_with fail
        have hF2 : Fr0 w0 w2 := hF1.trans hf2 (fun j hj e => own_old hown1 hj e)
        have hn2 := own_at hown2
        have hbS := hb9.set (.slice A2 L.length c2)
        have hcS := hbS.cell
        have hFS : Fr (fun k => k = W.heap.size + 1 + 1) w2 (w2.setCell ⟨W.heap.size + 1 + 1, 0, none⟩ (.slice A2 L.length c2)) := fr_setCell _ _ _ (fun _ => rfl)
        refine bodyPost_ret (v := setV A2 L.length c2) ?_ rfl ?_
        · simp only [results, show Try.f75.results = #[ResultVar.cell 4 76] from rfl]
          go_simp
        · show Rets (SetPost W (ofI (zs ++ ts))) _ _
          rw [HLL.out]
          exact ⟨_, rfl, A2, c2, rfl, (hf0.trans0 hF2).trans hFS (fun j hj e => by omega), own_set (own_fr hown2 hFS (fun b hb e => by subst e; exact own_old hown2 (by omega) hb)) HRL.out hLl, fun a e => by have := hn2 a e; omega⟩
      · clear hij2
        go_wp2_with fail
        clear z0 z1
        go_region_held_law (fun w' => w'.cell? ⟨W.heap.size, 0, none⟩ = some (.slice A zs.length c) ∧ w'.cell? ⟨W.heap.size + 1, 0, none⟩ = some (.slice B ts.length d))
          (first | exact HKS.out _ (fr_drew _ _) | exact HKS.out _ hG2 | exact HKS.out _ hG1 | exact HKS.out _ (hG2.trans (fr_setCell (S := fun k => k = W.heap.size + 1 + 1) _ _ _ (fun _ => rfl)) (fun _ _ e => by omega)))
          (first
            | (refine step_append_ints (B := w0.heap.size) (xs := out ++ zr) (ys := tr) (A := B') (c := d') rfl _ _ rfl rfl rfl hp2 (by rw [List.length_append]; omega) (by have := hG1.size; omega) hown1 (HI2.out _ hF1) ?_; intro v2 w2 hown2 hf2; rw [HRES.out] at hown2; obtain ⟨A2, c2, rfl⟩ := own_form hown2; have hG2 : Fr (fun k => W.heap.size + 1 + 1 ≤ k) wr w2 := hG1.trans hf2 (fun k _ e => by have := (own_blk hown1 e).1; omega); have hb9 : Box w2 (W.heap.size + 1 + 1) 76 (.slice none 0 0) := HB2.out.fr0 (hF1.trans hf2 (fun j hj e => own_old hown1 hj e)); have hc9 := hb9.cell; have hz9 := hb9.frozen)
            | (refine step_append_ints (B := w0.heap.size) (xs := out) (ys := zr) (A := A') (c := c') rfl _ _ rfl rfl rfl hp1 (by omega) (by simpa using hsz) (own_fr0 ho (fr_drew _ _)) (HI1.out _ (hf.drew)) ?_; intro v1 w1 hown1 hf1; obtain ⟨A1, c1, rfl⟩ := own_form hown1; have hG1 : Fr (fun k => W.heap.size + 1 + 1 ≤ k) wr w1 := (fr_drew _ _).trans hf1 (fun k _ e => by have := (own_blk ho e).1; omega); have hF1 : Fr0 w0 w1 := hf.drew.trans hf1 (fun j hj e => own_old ho hj e)))
        go_wp2_with fail
        have hF2 : Fr0 w0 w2 := hF1.trans hf2 (fun j hj e => own_old hown1 hj e)
        have hn2 := own_at hown2
        have hbS := hb9.set (.slice A2 L.length c2)
        have hcS := hbS.cell
        have hFS : Fr (fun k => k = W.heap.size + 1 + 1) w2 (w2.setCell ⟨W.heap.size + 1 + 1, 0, none⟩ (.slice A2 L.length c2)) := fr_setCell _ _ _ (fun _ => rfl)
        refine bodyPost_ret (v := setV A2 L.length c2) ?_ rfl ?_
        · simp only [results, show Try.f75.results = #[ResultVar.cell 4 76] from rfl]
          go_simp
        · show Rets (SetPost W (ofI (zs ++ ts))) _ _
          rw [HLL.out]
          exact ⟨_, rfl, A2, c2, rfl, (hf0.trans0 hF2).trans hFS (fun j hj e => by omega), own_set (own_fr hown2 hFS (fun b hb e => by subst e; exact own_old hown2 (by omega) hb)) HRL.out hLl, fun a e => by have := hn2 a e; omega⟩
set_option maxHeartbeats 4000000 in
theorem SWith_is {W : World} {A B : Option Addr} {c d : Nat} {zs l : List Int} (h1 : SetAt W A c zs) (h2 : IntsAt W B l) (hp : Plain B l.length d) (hsum : zs.length + l.length ≤ 1000000) :
    Calls Try.prog 42 #[setV A zs.length c, .slice B l.length d] W (Rets (SetPost W (ofI (zs ++ ofI l)))) := by
  obtain ⟨w0, hw0⟩ : ∃ w0, (W.alloc (.cells #[.slice A zs.length c] 76)).alloc (.cells #[.slice none 0 0] 76) = w0 := ⟨_, rfl⟩
  have hf0 : Fr0 W w0 := hw0 ▸ (fr_alloc _ _ _).alloc _
  have hs0 : w0.heap.size = W.heap.size + 2 := by rw [← hw0]; simp
  have hb0 : Box w0 W.heap.size 76 (.slice A zs.length c) := hw0 ▸ (Box.new W _ _).fr0 (fr_alloc _ _ _)
  have hb2 : Box w0 (W.heap.size + 1) 76 (.slice none 0 0) := by
    have := Box.new (W.alloc (.cells #[.slice A zs.length c] 76)) 76 (.slice none 0 0)
    rw [World.size_alloc] at this
    exact hw0 ▸ this
  have hol := len_ofI l
  have HZ := Lib.hid (h1.fr0 hf0)
  have HO := Lib.hid (fun w' (f : Fr0 w0 w') => SOf_is ((h2.fr0 hf0).fr0 f) hp (by omega))
  have HW := Lib.hid hw0
  have z0 := hb0.cell
  have HKS := Lib.hid (show ∀ w', Fr (fun k => W.heap.size + 1 ≤ k) w0 w' → w'.cell? ⟨W.heap.size, 0, none⟩ = some (.slice A zs.length c) from fun w' f => f.cell z0 (by show ¬ _ ≤ W.heap.size; omega))
  clear h1 h2 hw0 z0
  generalize hL2 : ofI l = l2 at HO hol ⊢
  go_enter Try.func42, Try.ntmps42
  go_wp2
  rw [HW.out]
  go_region_held_law (fun w' => w'.cell? ⟨W.heap.size, 0, none⟩ = some (.slice A zs.length c))
    (first | exact HKS.out _ (fr_drew _ _) | exact HKS.out _ (hF2.mono (fun _ _ h => h.elim)) | exact HKS.out _ (hF1.mono (fun _ _ h => h.elim)) | exact HKS.out _ ((hF2.mono (fun _ _ h => h.elim)).trans (fr_setCell (S := fun k => k = W.heap.size + 1) _ _ _ (fun _ => rfl)) (fun _ _ e => by omega)))
    (first
      | (go_at_call 41; refine (HO.out _ (fr_drew _ _)).mono ?_; rintro e w1 ⟨_, rfl, A1, c1, rfl, hf1, hS1, hN1⟩; have hF1 : Fr0 w0 w1 := (fr_drew _ _).trans0 hf1)
      | (go_at_call 75; refine (SOr_is (HZ.out.fr0 hF1) hS1 (by omega)).mono ?_; rintro e w2 ⟨_, rfl, A2, c2, rfl, hf2, hS2, hN2⟩; have hF2 : Fr0 w0 w2 := hF1.trans0 hf2; have hb9 : Box w2 (W.heap.size + 1) 76 (.slice none 0 0) := hb2.fr0 hF2; have hc9 := hb9.cell; have hz9 := hb9.frozen))
  go_wp2_with fail
  have hs1 := hF1.size
  generalize hL : ofI (zs ++ l2) = L at hS2 hb9 ⊢
  have hbS := hb9.set (.slice A2 L.length c2)
  have hcS := hbS.cell
  have hFS : Fr (fun k => k = W.heap.size + 1) w2 (w2.setCell ⟨W.heap.size + 1, 0, none⟩ (.slice A2 L.length c2)) := fr_setCell _ _ _ (fun _ => rfl)
  refine bodyPost_ret (v := setV A2 L.length c2) ?_ rfl ?_
  · simp only [results, show Try.f42.results = #[ResultVar.cell 4 76] from rfl]
    go_simp
  · exact ⟨_, rfl, A2, c2, rfl, (hf0.trans0 hF2).trans hFS (fun j hj e => by omega), hS2.fr hFS (fun a e h => by have := hN2 a e; omega), fun a e => by have := hN2 a e; omega⟩
end Go.Proofs.Ytekigojbkhjdbaa
