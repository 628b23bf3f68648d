/- The document's store: committing. -/
import Derived.Test.YtekigojbkhjdbaaRef40D
import Derived.BigRegion
namespace Go.Proofs.Ytekigojbkhjdbaa
set_option linter.all false
open Go.RowKit
set_option maxRecDepth 100000

def doneP (x : V4I) : Bool := decide (0 < x.s)
def mineP (id : Int) (x : V4I) : Bool := !decide (0 < x.s) && x.i == id
def openP (id : Int) (x : V4I) : Bool := !decide (0 < x.s) && !(x.i == id)
def stampV (n : Int) (x : V4I) : V4I := ⟨x.i, x.k, x.v, n⟩
def commitL (l : List V4I) (id n : Int) : List V4I := selV doneP (fun x => x) l ++ selV (mineP id) (stampV n) l ++ selV (openP id) (fun x => x) l
/-- Two slices' values that lie in no one block. -/
def Apart (u v : Value) : Prop := ∀ b, u.ownBlock = some b → v.ownBlock ≠ some b
theorem Apart.symm {u v : Value} (h : Apart u v) : Apart v u := fun b h1 h2 => h b h2 h1
theorem Apart.nil (v : Value) : Apart (.slice none 0 0) v := fun b h => by simp [Value.ownBlock] at h
/-- What was grown stays apart from what lay apart from it. -/
theorem Apart.grown {w : World} {B e size n N : Nat} {u v v' : Value} {xs : List Value} (h : Apart u v) (ho : w.ownsRow B e size u n xs) (hl : v'.ownBlock = v.ownBlock ∨ v'.ownBlock = some N) (hN : w.heap.size ≤ N) : Apart u v' := by
  intro b hb hb'
  rcases hl with e | e
  · rw [e] at hb'; exact h b hb hb'
  · rw [e] at hb'
    cases hb'
    have := (own_blk ho hb).2.1
    omega
def Four (W : World) (b t : Nat) (x : V4I) : Prop := W.heap[b]? = some (.cells #[.int .i64 x.i, .int .i64 x.k, .int .i64 x.v, .int .i64 x.s] t (0, 0))
section
variable {W W' : World} {b t : Nat} {x : V4I}
theorem Four.c0 (h : Four W b t x) : W.cell? ⟨b, 0, none⟩ = some (.int .i64 x.i) := by unfold Four at h; simp [World.cell?, h]
theorem Four.c1 (h : Four W b t x) : W.cell? ⟨b, 1, none⟩ = some (.int .i64 x.k) := by unfold Four at h; simp [World.cell?, h]
theorem Four.c2 (h : Four W b t x) : W.cell? ⟨b, 2, none⟩ = some (.int .i64 x.v) := by unfold Four at h; simp [World.cell?, h]
theorem Four.c3 (h : Four W b t x) : W.cell? ⟨b, 3, none⟩ = some (.int .i64 x.s) := by unfold Four at h; simp [World.cell?, h]
theorem Four.fz (h : Four W b t x) (o : Nat) : W.frozen? ⟨b, o, none⟩ = false := by unfold Four at h; simp [World.frozen?, h]
theorem Four.new (w : World) (t : Nat) (x : V4I) : Four (w.alloc (.cells #[.int .i64 x.i, .int .i64 x.k, .int .i64 x.v, .int .i64 x.s] t)) w.heap.size t x := World.alloc_heap_new w _
theorem Four.set3 (h : Four W b t x) (n : Int) : Four (W.setCell ⟨b, 3, none⟩ (.int .i64 n)) b t (stampV n x) := by
  unfold Four at h ⊢
  simp only [World.setCell, Array.getElem?_modify, h, if_true]
  simp [stampV]
end
set_option maxHeartbeats 8000000 in
theorem Commit40_is {W : World} {A : Option Addr} {c : Nat} {l : List V4I} (h : V4At W A l) (hsm : l.length ≤ 100000) {now : Nat} (hnow : now ≤ 1000000) (id : Int) :
    Calls Try.prog 65 #[.agg #[.slice A l.length c, .int .i64 (now : Int)], .int .i64 id] W (Rets fun v w' => ∃ A' c', v = .tuple #[stV A' (commitL l id ((now : Int) + 1)).length c' ((now : Int) + 1), .int .i64 ((now : Int) + 1)] ∧ Fr0 W w' ∧ StAt w' W.heap.size A' c' (commitL l id ((now : Int) + 1))) := by
  obtain ⟨i0, hi, hz0, hz1, hz2⟩ := info_parts info_v4
  obtain ⟨N1, hN1⟩ : ∃ N1 : Int, N1 = (now : Int) + 1 := ⟨_, rfl⟩
  have hw1 : IntKind.i64.wrap ((now : Int) + 1) = N1 := by rw [IntKind.wrap_i64]; omega
  rw [← hN1]
  obtain ⟨hf1', hs1', hA1, hB1⟩ := W0_facts W (.slice A l.length c) N1
  have HW := Lib.hid (show (W.alloc (.cells #[.slice A l.length c, .int .i64 N1] 58)).alloc (.cells #[.slice none 0 0, .int .i64 0] 58) = W0 W (.slice A l.length c) N1 from rfl)
  generalize W0 W (.slice A l.length c) N1 = w1 at hf1' hs1' hA1 hB1 HW
  have HX := Lib.hid (h.fr0 hf1')
  have HA1 := Lib.hid hA1
  have HB1 := Lib.hid hB1
  have hnow' : (now : Int) ≤ 1000000 := by omega
  clear h hA1 hB1 hN1
  go_enter Try.func65, Try.ntmps65
  go_wp2_with fail
  rw [HW.out]
  clear HW hw1
  go_loopw [6, 7, 8, 9] (fun v6 v7 v8 v9 wr => ∃ (k : Nat) (d m o : List V4I), k ≤ l.length ∧ v9 = .int .i64 k ∧ Hid (d = selV doneP (fun x => x) (l.take k)) ∧ Hid (m = selV (mineP id) (stampV N1) (l.take k)) ∧ Hid (o = selV (openP id) (fun x => x) (l.take k)) ∧ d.length + m.length + o.length ≤ k ∧ Fr0 w1 wr ∧
      wr.ownsRow w1.heap.size 109 4 v6 d.length (tupCells v4E d) ∧ wr.ownsRow w1.heap.size 109 4 v7 m.length (tupCells v4E m) ∧ wr.ownsRow w1.heap.size 109 4 v8 o.length (tupCells v4E o) ∧ Apart v6 v7 ∧ Apart v6 v8 ∧ Apart v7 v8) (fun _ _ _ v9 _ => l.length - (intOf v9).toNat)
  case atStart => exact ⟨0, [], [], [], by omega, rfl, Lib.hid rfl, Lib.hid rfl, Lib.hid rfl, by simp, Fr.refl _ _, own_nil _ _ _ _, own_nil _ _ _ _, own_nil _ _ _ _, Apart.nil _, Apart.nil _, Apart.nil _⟩
  case round =>
    obtain ⟨k, d, m, o, hk, rfl, HD, HM, HO, hlen, hf, ho6, ho7, ho8, h67, h68, h78⟩ := hrel
    have hsz := hf.size
    have hA := HA1.out.fr0 hf
    have y1 := hA.c0
    have y2 := hA.c1
    obtain ⟨A6, c6, e6⟩ := own_form ho6
    subst e6
    obtain ⟨A7, c7, e7⟩ := own_form ho7
    subst e7
    obtain ⟨A8, c8, e8⟩ := own_form ho8
    subst e8
    by_cases hlt : k < l.length
    · obtain ⟨q, p, x, rfl, he, c0, c1, c2, c4⟩ := v4_at (HX.out.fr0 hf) hlt
      have hlt' : (k : Int) < (l.length : Int) := by omega
      have hTd := selV_take doneP (fun x => x) l k he
      have hTm := selV_take (mineP id) (stampV N1) l k he
      have hTo := selV_take (openP id) (fun x => x) l k he
      rw [← HD.out] at hTd
      rw [← HM.out] at hTm
      rw [← HO.out] at hTo
      by_cases h1 : 0 < x.s
      · have i1 : doneP x = true := by simp [doneP, h1]
        have i2 : mineP id x = false := by simp [mineP, h1]
        have i3 : openP id x = false := by simp [openP, h1]
        rw [if_pos i1] at hTd
        rw [if_neg (by simp [i2]), List.append_nil] at hTm
        rw [if_neg (by simp [i3]), List.append_nil] at hTo
        have HTd := Lib.hid hTd
        have HTm := Lib.hid hTm
        have HTo := Lib.hid hTo
        have hF : Fr0 wr ((wr.alloc (.cells #[.int .i64 x.i, .int .i64 x.k, .int .i64 x.v, .int .i64 x.s] 109)).alloc (.cells #[.int .i64 x.i, .int .i64 x.k, .int .i64 x.v, .int .i64 x.s] 109)) := ((fr_alloc (fun _ => False) wr _).alloc _)
        have hNs : ((wr.alloc (.cells #[.int .i64 x.i, .int .i64 x.k, .int .i64 x.v, .int .i64 x.s] 109)).alloc (.cells #[.int .i64 x.i, .int .i64 x.k, .int .i64 x.v, .int .i64 x.s] 109)).heap.size = wr.heap.size + 2 := by simp [World.setCell]
        have hww := own_fr0 ho6 hF
        have HF := Lib.hid hF
        have HWW := Lib.hid hww
        clear hTd hTm hTo i1 i2 i3 hF hww
        go_wp2_with (at_builtin; refine wpList_append_own_at _ rfl _ _ 56 rfl w1.heap.size 109 i0 (.agg #[.int .i64 0, .int .i64 0, .int .i64 0, .int .i64 0]) 4 32 Try.underlying56 hi hz0 hz1 hz2 rfl (by decide) _ _ _ rfl HWW.out ⟨wr.heap.size + 1, 0, none⟩ 1 1 (intsI (v4E x)) rfl rfl (cells_newN _ (intsI (v4E x)) _ (by simp [World.setCell])) intsI_get (by unfold maxLen; omega) (by omega) (by omega) ?_; intro v' w2 hown' hgrow _ hloc)
        have hG := append_fr0 HWW.out hgrow
        go_roundw
        case rel =>
          rw [← tupCells_snoc] at hown'
          have hn7 := own_fr (own_fr0 ho7 HF.out) hG (fun b hb e => h67 b e hb)
          have hn8 := own_fr (own_fr0 ho8 HF.out) hG (fun b hb e => h68 b e hb)
          have hfin : Fr0 w1 w2 := (hf.trans0 HF.out).trans hG (fun j hj e => own_old ho6 hj e)
          exact ⟨k + 1, (d ++ [x]), m, o, by omega, by go_num, Lib.hid HTd.out.symm, Lib.hid HTm.out.symm, Lib.hid HTo.out.symm, by simp; omega, hfin, (by simpa using hown'), hn7, hn8, ((h67.symm).grown ho7 hloc HF.out.size).symm, ((h68.symm).grown ho8 hloc HF.out.size).symm, h78⟩
        case measure => simp [intOf]; omega
      · have d1 : decide (0 < x.s) = false := by simpa using h1
        have i1 : doneP x = false := by simp [doneP, h1]
        by_cases h2 : x.i = id
        · have d2 : (x.i == id) = true := by simpa using h2
          have i2 : mineP id x = true := by simp [mineP, h1, h2]
          have i3 : openP id x = false := by simp [openP, h2]
          clear h2
          rw [if_neg (by simp [i1]), List.append_nil] at hTd
          rw [if_pos i2] at hTm
          rw [if_neg (by simp [i3]), List.append_nil] at hTo
          have HTd := Lib.hid hTd
          have HTm := Lib.hid hTm
          have HTo := Lib.hid hTo
          have hF : Fr0 wr ((wr.alloc (.cells #[.int .i64 x.i, .int .i64 x.k, .int .i64 x.v, .int .i64 N1] 109)).alloc (.cells #[.int .i64 x.i, .int .i64 x.k, .int .i64 x.v, .int .i64 N1] 109)) := ((fr_alloc (fun _ => False) wr _).alloc _)
          have hNs : ((wr.alloc (.cells #[.int .i64 x.i, .int .i64 x.k, .int .i64 x.v, .int .i64 N1] 109)).alloc (.cells #[.int .i64 x.i, .int .i64 x.k, .int .i64 x.v, .int .i64 N1] 109)).heap.size = wr.heap.size + 2 := by simp [World.setCell]
          have hww := own_fr0 ho7 hF
          have HF := Lib.hid hF
          have HWW := Lib.hid hww
          have hq := Four.new wr 109 x
          have q4 := hq.fz 3
          have hq2 := hq.set3 N1
          have q5 := hq2.c0
          have q6 := hq2.c1
          have q7 := hq2.c2
          have q8 := hq2.c3
          have q3 := hq.c3
          have qy : ((wr.alloc (.cells #[.int .i64 x.i, .int .i64 x.k, .int .i64 x.v, .int .i64 x.s] 109))).cell? ⟨W.heap.size, 1, none⟩ = some (.int .i64 N1) := (fr_alloc (fun _ => False) wr _).cell y2 (fun x => x)
          clear hTd hTm hTo i1 i2 i3 hF hww
          go_wp2_with (at_builtin; refine wpList_append_own_at _ rfl _ _ 56 rfl w1.heap.size 109 i0 (.agg #[.int .i64 0, .int .i64 0, .int .i64 0, .int .i64 0]) 4 32 Try.underlying56 hi hz0 hz1 hz2 rfl (by decide) _ _ _ rfl HWW.out ⟨wr.heap.size + 1, 0, none⟩ 1 1 (intsI (v4E (stampV N1 x))) rfl rfl (cells_newN _ (intsI (v4E (stampV N1 x))) _ (by simp [World.setCell])) intsI_get (by unfold maxLen; omega) (by omega) (by omega) ?_; intro v' w2 hown' hgrow _ hloc)
          have hG := append_fr0 HWW.out hgrow
          go_roundw
          case rel =>
            rw [← tupCells_snoc] at hown'
            have hn6 := own_fr (own_fr0 ho6 HF.out) hG (fun b hb e => h67.symm b e hb)
            have hn8 := own_fr (own_fr0 ho8 HF.out) hG (fun b hb e => h78 b e hb)
            have hfin : Fr0 w1 w2 := (hf.trans0 HF.out).trans hG (fun j hj e => own_old ho7 hj e)
            exact ⟨k + 1, d, (m ++ [(stampV N1 x)]), o, by omega, by go_num, Lib.hid HTd.out.symm, Lib.hid HTm.out.symm, Lib.hid HTo.out.symm, by simp; omega, hfin, hn6, (by simpa using hown'), hn8, ((h67).grown ho6 hloc HF.out.size), h68, ((h78.symm).grown ho8 hloc HF.out.size).symm⟩
          case measure => simp [intOf]; omega
        · have d2 : (x.i == id) = false := by simpa using h2
          have i2 : mineP id x = false := by simp [mineP, h2]
          have i3 : openP id x = true := by simp [openP, h1, h2]
          rw [if_neg (by simp [i1]), List.append_nil] at hTd
          rw [if_neg (by simp [i2]), List.append_nil] at hTm
          rw [if_pos i3] at hTo
          have HTd := Lib.hid hTd
          have HTm := Lib.hid hTm
          have HTo := Lib.hid hTo
          have hF : Fr0 wr ((wr.alloc (.cells #[.int .i64 x.i, .int .i64 x.k, .int .i64 x.v, .int .i64 x.s] 109)).alloc (.cells #[.int .i64 x.i, .int .i64 x.k, .int .i64 x.v, .int .i64 x.s] 109)) := ((fr_alloc (fun _ => False) wr _).alloc _)
          have hNs : ((wr.alloc (.cells #[.int .i64 x.i, .int .i64 x.k, .int .i64 x.v, .int .i64 x.s] 109)).alloc (.cells #[.int .i64 x.i, .int .i64 x.k, .int .i64 x.v, .int .i64 x.s] 109)).heap.size = wr.heap.size + 2 := by simp [World.setCell]
          have hww := own_fr0 ho8 hF
          have HF := Lib.hid hF
          have HWW := Lib.hid hww
          clear hTd hTm hTo i1 i2 i3 hF hww
          go_wp2_with (at_builtin; refine wpList_append_own_at _ rfl _ _ 56 rfl w1.heap.size 109 i0 (.agg #[.int .i64 0, .int .i64 0, .int .i64 0, .int .i64 0]) 4 32 Try.underlying56 hi hz0 hz1 hz2 rfl (by decide) _ _ _ rfl HWW.out ⟨wr.heap.size + 1, 0, none⟩ 1 1 (intsI (v4E x)) rfl rfl (cells_newN _ (intsI (v4E x)) _ (by simp [World.setCell])) intsI_get (by unfold maxLen; omega) (by omega) (by omega) ?_; intro v' w2 hown' hgrow _ hloc)
          have hG := append_fr0 HWW.out hgrow
          go_roundw
          case rel =>
            rw [← tupCells_snoc] at hown'
            have hn6 := own_fr (own_fr0 ho6 HF.out) hG (fun b hb e => h68.symm b e hb)
            have hn7 := own_fr (own_fr0 ho7 HF.out) hG (fun b hb e => h78.symm b e hb)
            have hfin : Fr0 w1 w2 := (hf.trans0 HF.out).trans hG (fun j hj e => own_old ho8 hj e)
            exact ⟨k + 1, d, m, (o ++ [x]), by omega, by go_num, Lib.hid HTd.out.symm, Lib.hid HTm.out.symm, Lib.hid HTo.out.symm, by simp; omega, hfin, hn6, hn7, (by simpa using hown'), h67, ((h68).grown ho6 hloc HF.out.size), ((h78).grown ho7 hloc HF.out.size)⟩
          case measure => simp [intOf]; omega
    · have hke : k = l.length := by omega
      have hRd := HD.out
      have hRm := HM.out
      have hRo := HO.out
      rw [hke, List.take_of_length_le (Nat.le_refl _)] at hRd hRm hRo
      clear HD HM HO
      have HL : Hid (d ++ m ++ o = commitL l id N1) := Lib.hid (by rw [hRd, hRm, hRo]; rfl)
      clear hRd hRm hRo
      generalize hLL : commitL l id N1 = L at HL ⊢
      have HLL := Lib.hid hLL
      clear hLL
      obtain ⟨v1, u1, hr1, ho1, hg1⟩ := run_append_v4 ho6 (own_tups v4E_len ho7 (by omega)) (plain_own ho7) (by omega) hsz 56
      have hG1 := append_fr0 ho6 hg1
      have ho8' := own_fr ho8 hG1 (fun b hb e => h68 b e hb)
      have hfu1 : Fr0 w1 u1 := hf.trans hG1 (fun j hj e => own_old ho6 hj e)
      obtain ⟨A1, c1, e1⟩ := own_form ho1
      subst e1
      have hdm : (d ++ m).length = d.length + m.length := List.length_append
      obtain ⟨v2, u2, hr2, ho2, hg2⟩ := run_append_v4 ho1 (own_tups v4E_len ho8' (by omega)) (plain_own ho8') (by omega) hfu1.size 56
      have hG2 := append_fr0 ho1 hg2
      have hfu2 : Fr0 w1 u2 := hfu1.trans hG2 (fun j hj e => own_old ho1 hj e)
      rw [HL.out] at ho2
      obtain ⟨A3, c3, e3⟩ := own_form ho2
      subst e3
      have hA2 := HA1.out.fr0 hfu2
      have hB2 := HB1.out.fr0 hfu2
      have a0 := hA2.c0
      have f0 := hA2.fz 0
      obtain ⟨w4, hw4⟩ : ∃ w4, w4 = u2.setCell ⟨W.heap.size, 0, none⟩ (.slice A3 L.length c3) := ⟨_, rfl⟩
      have hA4 : Two w4 W.heap.size 58 (.slice A3 L.length c3) (.int .i64 N1) := hw4 ▸ hA2.set0 _
      have hB4 : Two w4 (W.heap.size + 1) 58 (.slice none 0 0) (.int .i64 0) := hw4 ▸ hB2.fr (S := fun k => k = W.heap.size) (fr_setCell u2 ⟨W.heap.size, 0, none⟩ (.slice A3 L.length c3) (fun _ => rfl)) (show ¬ W.heap.size + 1 = W.heap.size by omega)
      obtain ⟨e1, e2⟩ := st_end (now := N1) (hf1'.trans0 hfu2) (show u2.ownsRow (W.heap.size + 2) _ 4 _ _ _ by rw [← hs1']; exact ho2)
      have HE1 := Lib.hid e1
      have HE2 := Lib.hid e2
      have HW4 := Lib.hid hw4
      rw [hdm] at hr2
      rw [hdm] at hr1
      clear e1 e2 hw4 hA2 hB2 ho2 ho1 ho8' hG1 hG2 ho6 ho7 ho8 h67 h68 h78 hg1 hg2 hfu1 hfu2
      go_wp2_with (first
        | (at_builtin; refine wpList_append_run rfl _ _ _ rfl rfl rfl hr2 ?_)
        | (at_builtin; refine wpList_append_run rfl _ _ _ rfl rfl rfl hr1 ?_))
      rw [← HW4.out]
      have b0 := hA4.c0
      have b1 := hA4.c1
      have g0 := hB4.c0
      have g1 := hB4.fz 0
      have g2 := (hB4.set0 (.slice A3 L.length c3)).c1
      have g3 := (hB4.set0 (.slice A3 L.length c3)).fz 1
      have g4 := ((hB4.set0 (.slice A3 L.length c3)).set1 (.int .i64 N1)).c0
      have g5 := ((hB4.set0 (.slice A3 L.length c3)).set1 (.int .i64 N1)).c1
      go_region
      go_wp2_with fail
      refine bodyPost_ret (v := .tuple #[stV A3 L.length c3 N1, .int .i64 N1]) ?_ rfl ?_
      · simp only [results, show Try.f65.results = #[ResultVar.cell 4 58, ResultVar.tmp 5] from rfl]
        go_simp
      · rw [HLL.out]
        refine ⟨_, rfl, A3, c3, rfl, ?_, ?_⟩
        · rw [HW4.out]; exact HE1.out.drew
        · rw [HW4.out]; exact HE2.out.fr0 (fr_drew _ _)
end Go.Proofs.Ytekigojbkhjdbaa
