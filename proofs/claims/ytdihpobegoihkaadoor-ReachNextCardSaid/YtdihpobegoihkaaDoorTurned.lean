/- The document's reach: a graph turned; To. -/
import Derived.Test.YtdihpobegoihkaaDoorFrom
namespace Go.Proofs.YtdihpobegoihkaaDoor
set_option linter.all false
open Go.RowKit
set_option maxRecDepth 100000

/-- The masks that are being turned: of the rows below v all, of row v those below w. -/
def turnM (Mx : Nat → Nat → Int) (v w : Nat) : Nat → Nat → Int := fun a b => if b < v ∨ (b = v ∧ a < w) then Mx b a else 0
theorem turnM_at (Mx : Nat → Nat → Int) (v w : Nat) : turnM Mx v (w + 1) w v = Mx v w := by
  rw [turnM, if_pos (.inr ⟨rfl, by omega⟩)]
theorem turnM_else (Mx : Nat → Nat → Int) (v w a b : Nat) (h : ¬ (a = w ∧ b = v)) : turnM Mx v (w + 1) a b = turnM Mx v w a b := by
  unfold turnM
  by_cases h1 : b < v ∨ (b = v ∧ a < w)
  · rw [if_pos h1, if_pos (by omega)]
  · rw [if_neg h1, if_neg (by omega)]
theorem turnM_next (Mx : Nat → Nat → Int) (n v a b : Nat) (ha : a < n) : turnM Mx (v + 1) 0 a b = turnM Mx v n a b := by
  unfold turnM
  by_cases h1 : b < v ∨ (b = v ∧ a < n)
  · rw [if_pos h1, if_pos (by omega)]
  · rw [if_neg h1, if_neg (by omega)]
def TurnPost (W : World) (n : Nat) (Mx : Nat → Nat → Int) (v : Value) (w' : World) : Prop :=
  ∃ R c, v = .agg #[.int .i64 (n : Int), .slice R n c] ∧ Fr0 W w' ∧ RefG w' n R (fun a b => Mx b a)
/-- The same, and its memory is of its own. -/
def TurnPostO (W : World) (n : Nat) (Mx : Nat → Nat → Int) (v : Value) (w' : World) : Prop :=
  ∃ R c L, v = .agg #[.int .i64 (n : Int), .slice R n c] ∧ Fr0 W w' ∧ OwnG (W.heap.size + 2) w' n R c L (fun a b => Mx b a)
theorem OwnG.fr {S : Nat → Prop} {B n c : Nat} {w w' : World} {R : Option Addr} {L : List Nat} {Mx : Nat → Nat → Int} (h : OwnG B w n R c L Mx) (f : Fr S w w') (hs : ∀ j, B ≤ j → ¬ S j) : OwnG B w' n R c L Mx :=
  ⟨h.room, h.len, own_fr h.own f (fun b hb => hs b (own_blk h.own hb).1), fun i hi => f.heap (h.rows i hi) (hs _ (h.new i hi)), h.new, h.apart⟩
set_option maxHeartbeats 4000000 in
theorem Turned21O_is {W : World} {n c : Nat} {R : Option Addr} {Mx : Nat → Nat → Int} (h : RefG W n R Mx) :
    Calls Tryd.prog 40 #[.agg #[.int .i64 (n : Int), .slice R n c]] W (Rets (TurnPostO W n Mx)) := by
  have hn := h.1
  obtain ⟨w0, hw0⟩ : ∃ w0, (W.alloc (.cells #[.int .i64 (n : Int), .slice R n c] 27)).alloc (.cells #[.int .i64 0, .slice none 0 0] 27) = w0 := ⟨_, rfl⟩
  have hf0 : Fr0 W w0 := hw0 ▸ (fr_alloc _ _ _).alloc _
  have hs0 : w0.heap.size = W.heap.size + 2 := by rw [← hw0]; simp
  have hbx : w0.heap[W.heap.size]? = some (.cells #[.int .i64 (n : Int), .slice R n c] 27 (0, 0)) := hw0 ▸ Fr0.heap' (fr_alloc _ _ _) (World.alloc_heap_new _ _)
  have hrs : w0.heap[W.heap.size + 1]? = some (.cells #[.int .i64 0, .slice none 0 0] 27 (0, 0)) := by
    have := World.alloc_heap_new (W.alloc (.cells #[.int .i64 (n : Int), .slice R n c] 27)) (.cells #[.int .i64 0, .slice none 0 0] 27)
    rw [World.size_alloc] at this
    exact hw0 ▸ this
  have b0 : w0.cell? ⟨W.heap.size, 0, none⟩ = some (.int .i64 n) := by simp [World.cell?, hbx]
  have b1 : w0.cell? ⟨W.heap.size, 1, none⟩ = some (.slice R n c) := by simp [World.cell?, hbx]
  have HG := Lib.hid (h.fr0 hf0)
  have HN := Lib.hid (RefNewO_is (W := w0) (A := none) (c := 0) (l := []) ⟨by simp, .inl rfl⟩ hn rfl)
  have HRS := Lib.hid hrs
  clear h hbx hrs
  go_enter Tryd.func40, Tryd.ntmps40
  go_wp2_with (go_at_call 15; (try rw [hw0]); refine (HN.out).mono ?_; rintro e w1 ⟨_, rfl, R2, c2, L, rfl, hf1, hO1⟩)
  have hW0 := Lib.hid hw0
  clear hw0
  have hs1 := hf1.size
  obtain ⟨w2, hw2⟩ : ∃ w2, w1.alloc (.cells #[.int .i64 (n : Int), .slice R2 n c2] 27) = w2 := ⟨_, rfl⟩
  have hf2 : Fr0 w0 w2 := hw2 ▸ hf1.alloc _
  have hob : w2.heap[w1.heap.size]? = some (.cells #[.int .i64 (n : Int), .slice R2 n c2] 27 (0, 0)) := hw2 ▸ World.alloc_heap_new _ _
  have hO2 : OwnG w0.heap.size w2 n R2 c2 L (turnM Mx 0 0) := (hw2 ▸ hO1.fr0 (fr_alloc _ _ _) : OwnG w0.heap.size w2 n R2 c2 L _).congr (fun a b _ _ => by simp [turnM, orM])
  clear hO1 hf1
  generalize hobn : w1.heap.size = ob at hob hs1
  have HOB := Lib.hid hobn
  try rw [hw2]
  clear hobn hw2
  go_loopw [5] (fun v5 wr => ∃ v : Nat, v ≤ n ∧ v5 = .int .i64 v ∧ Fr0 w0 wr ∧ Hid (OwnG w0.heap.size wr n R2 c2 L (turnM Mx v 0)) ∧ wr.heap[ob]? = some (.cells #[.int .i64 (n : Int), .slice R2 n c2] 27 (0, 0))) (fun v5 _ => n - (intOf v5).toNat)
  case atStart => exact ⟨0, by omega, rfl, hf2, Lib.hid hO2, hob⟩
  case round =>
    clear hO2 hob hf2
    obtain ⟨v, hv, rfl, hfv, HO, hob⟩ := hrel
    have g0 := hfv.cell b0 (fun x => x)
    have HOBH := Lib.hid hob
    clear hob
    by_cases hlt : v < n
    · have hlt' : (v : Int) < (n : Int) := by omega
      go_wp2_with fail
      rename World => wv
      go_loopw [6] (fun v6 wr => ∃ w : Nat, w ≤ n ∧ v6 = .int .i64 w ∧ Fr0 w0 wr ∧ Hid (OwnG w0.heap.size wr n R2 c2 L (turnM Mx v w)) ∧ Hid (wr.heap[ob]? = some (.cells #[.int .i64 (n : Int), .slice R2 n c2] 27 (0, 0)))) (fun v6 _ => n - (intOf v6).toNat)
      case atStart => exact ⟨0, by omega, rfl, hfv, HO, HOBH⟩
      case round =>
        clear hfv HO HOBH g0
        obtain ⟨w, hw, rfl, hfw, HO, HOBH⟩ := hrel
        have g0 := hfw.cell b0 (fun x => x)
        have g1 := hfw.cell b1 (fun x => x)
        by_cases hlw : w < n
        · have hlw' : (w : Int) < (n : Int) := by omega
          have hO := HO.out
          have hob := HOBH.out
          have d1 : wr.cell? ⟨ob, 1, none⟩ = some (.slice R2 n c2) := by simp [World.cell?, hob]
          obtain ⟨q, hq, d2⟩ := hO.at_ hlw
          obtain ⟨b, o, rb, ro, cc, hR, d3, d4⟩ := (HG.out.fr0 hfw).2 v hlt
          have d5 := d4 w hlw
          have hr := hO.rows w hlw
          have d6 := hr.cell (i := v) (by simpa using hlt)
          have d7 := hr.frozen v
          have HS := Lib.hid (fun w2 (f2 : Fr0 wr w2) => (hO.fr0 f2).set (M2 := turnM Mx v (w + 1)) hlw hlt (x := Mx v w) (turnM_at _ _ _) (fun a b h => turnM_else _ _ _ _ _ h))
          have hnw := hO.new w hlw
          have hne : ob ≠ L.getD w 0 := by
            intro e
            rw [e] at hob
            unfold IntRow at hr
            rw [hr] at hob; injection hob with hob; injection hob with _ hob _; exact absurd hob (by decide)
          have HNE := Lib.hid hne
          subst hq
          subst hR
          generalize L.getD w 0 = r at d2 d6 d7 HS hnw HNE
          clear hO hob hr hne d4
          go_wp2_with fail
          refine wp_region_still_tail 15 (by kernel_rfl) (by kernel_rfl) ?_
          simp only [List.take_succ_cons, List.take_zero, List.drop_succ_cons, List.drop_zero]
          change wpStill _ _ (World.drew _) _ _ _
          repeat still_step
          refine wpStill_nil ?_
          change wpList _ _ _ _ _ (World.drew _)
          go_wp2_with fail
          obtain ⟨k1, k2⟩ := HS.out _ (fr_drew _ _)
          go_roundw
          case rel => exact ⟨w + 1, by omega, by go_num, (hfw.trans0 (fr_drew _ _)).trans k2 (fun j hj e => by omega), Lib.hid k1, Lib.hid (k2.heap (Fr0.heap' (fr_drew _ _) HOBH.out) HNE.out)⟩
          case measure => simp [intOf]; omega
        · have hwe : w = n := by omega
          subst hwe
          have HO2 := Lib.hid (HO.out.congr (M2 := turnM Mx (v + 1) 0) (fun a b ha _ => turnM_next _ _ _ _ _ ha))
          go_wp2_with fail
          go_roundw
          case rel => exact ⟨v + 1, by omega, by go_num, hfw, HO2, HOBH.out⟩
          case measure => simp [intOf]; omega
    · have hve : v = n := by omega
      subst hve
      have hob := HOBH.out
      have d0 : wr.cell? ⟨ob, 0, none⟩ = some (.int .i64 v) := by simp [World.cell?, hob]
      have d1 : wr.cell? ⟨ob, 1, none⟩ = some (.slice R2 v c2) := by simp [World.cell?, hob]
      have hrs := hfv.heap' HRS.out
      have e0 : wr.cell? ⟨W.heap.size + 1, 0, none⟩ = some (.int .i64 0) := by simp [World.cell?, hrs]
      have e1 : wr.cell? ⟨W.heap.size + 1, 1, none⟩ = some (.slice none 0 0) := by simp [World.cell?, hrs]
      have f0 : wr.frozen? ⟨W.heap.size + 1, 0, none⟩ = false := by simp [World.frozen?, hrs]
      have f1 : wr.frozen? ⟨W.heap.size + 1, 1, none⟩ = false := by simp [World.frozen?, hrs]
      have HHR := Lib.hid hrs
      clear hob hrs
      go_wp2_with fail
      obtain ⟨w9, hw9⟩ : ∃ w9, (wr.setCell ⟨W.heap.size + 1, 0, none⟩ (.int .i64 (v : Int))).setCell ⟨W.heap.size + 1, 1, none⟩ (.slice R2 v c2) = w9 := ⟨_, rfl⟩
      rw [hw9]
      have hF : Fr (fun b => b = W.heap.size + 1) wr w9 := hw9 ▸ (fr_setCell (S := fun b => b = W.heap.size + 1) wr ⟨W.heap.size + 1, 0, none⟩ (.int .i64 (v : Int)) (fun _ => rfl)).setCell ⟨W.heap.size + 1, 1, none⟩ (.slice R2 v c2) (fun _ => rfl)
      have hh := heap_setCell_same (o := 1) (heap_setCell_same (o := 0) HHR.out (.int .i64 (v : Int))) (.slice R2 v c2)
      rw [hw9] at hh
      have k0 : w9.cell? ⟨W.heap.size + 1, 0, none⟩ = some (.int .i64 v) := by simp [World.cell?, hh]
      have k1 : w9.cell? ⟨W.heap.size + 1, 1, none⟩ = some (.slice R2 v c2) := by simp [World.cell?, hh]
      refine bodyPost_ret (v := .agg #[.int .i64 v, .slice R2 v c2]) ?_ rfl ?_
      · simp only [results, show Tryd.f40.results = #[ResultVar.cell 2 27] from rfl]
        go_simp
      · have hO := HO.out
        refine ⟨_, rfl, R2, c2, L, rfl, (hf0.trans0 hfv).trans hF (fun j hj e => by omega), ?_⟩
        have hne : ∀ {q : Nat} {cs : Array Value} {t : Nat}, wr.heap[q]? = some (.cells cs t (0, 0)) → t ≠ 27 → ¬ q = W.heap.size + 1 := by
          intro q cs t hq ht e
          subst e
          rw [HHR.out] at hq; injection hq with hq; injection hq with _ hq _; exact ht hq.symm
        have hO9 : OwnG w0.heap.size w9 v R2 c2 L (turnM Mx v 0) := ⟨hO.room, hO.len, own_fr hO.own hF (fun b hb e => by
          obtain ⟨_, _, cs, hbb⟩ := own_blk hO.own hb
          exact hne hbb (by decide) e), fun i hi => hF.heap (hO.rows i hi) (hne (hO.rows i hi) (by decide)), hO.new, hO.apart⟩
        exact hs0 ▸ hO9.congr (M2 := fun a b => Mx b a) (fun a b _ hb => by rw [turnM, if_pos (.inl hb)])
theorem Turned21_is {W : World} {n c : Nat} {R : Option Addr} {Mx : Nat → Nat → Int} (h : RefG W n R Mx) :
    Calls Tryd.prog 40 #[.agg #[.int .i64 (n : Int), .slice R n c]] W (Rets (TurnPost W n Mx)) := by
  refine (Turned21O_is h).mono ?_
  rintro e w' ⟨_, rfl, R2, c2, L, rfl, hf, hO⟩
  exact ⟨_, rfl, R2, c2, rfl, hf, hO.ref⟩
theorem To21_is {W : World} {n c d e : Nat} {R S B : Option Addr} {Mx : Nat → Nat → Int} {ss ws : List Int} (h : RefG W n R Mx) (hs : IntsAt W S ss) (hw : IntsAt W B ws) (m : Int) :
    Calls Tryd.prog 36 #[.agg #[.int .i64 (n : Int), .slice R n c], .slice S ss.length d, .slice B ws.length e, .int .i64 m] W (Rets (ListPost W (elems n (fromR n (fun a b => Mx b a) ss ws m)))) := by
  obtain ⟨W0, hW0⟩ : ∃ W0, W.alloc (.cells #[.int .i64 (n : Int), .slice R n c] 27) = W0 := ⟨_, rfl⟩
  have hf0 : Fr0 W W0 := hW0 ▸ fr_alloc _ _ _
  have hhp : W0.heap[W.heap.size]? = some (.cells #[.int .i64 (n : Int), .slice R n c] 27 (0, 0)) := hW0 ▸ World.alloc_heap_new _ _
  have b0 : W0.cell? ⟨W.heap.size, 0, none⟩ = some (.int .i64 n) := by simp [World.cell?, hhp]
  have b1 : W0.cell? ⟨W.heap.size, 1, none⟩ = some (.slice R n c) := by simp [World.cell?, hhp]
  have HT := Lib.hid (Turned21_is (c := c) (h.fr0 hf0))
  have HS := Lib.hid (hs.fr0 hf0)
  have HW := Lib.hid (hw.fr0 hf0)
  have hs0 := hf0.size
  clear h hs hw hhp
  go_enter Tryd.func36, Tryd.ntmps36
  go_wp2_with (first
    | (go_at_call 40; (try rw [hW0]); refine (HT.out).mono ?_; rintro e w1 ⟨_, rfl, R1, c1, rfl, hf1, hR1⟩)
    | (go_at_call 35; refine (FromR_is hR1 (HS.out.fr0 hf1) (HW.out.fr0 hf1) m).mono ?_; rintro e w2 ⟨v2, rfl, hf2, ho2⟩))
  go_ret
  exact ⟨_, rfl, (hf0.trans0 hf1).trans0 hf2, ho2.mono (Nat.le_trans hs0 hf1.size)⟩
end Go.Proofs.YtdihpobegoihkaaDoor
