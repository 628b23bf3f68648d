/- The document's part of a vertex. -/
import Derived.Test.YtdihpobegoihkaaDoorPick
namespace Go.Proofs.YtdihpobegoihkaaDoor
set_option linter.all false
open Go.RowKit
set_option maxRecDepth 100000

theorem pick_both (n : Nat) (p q : Nat → Bool) : pickI (natI (elems n p)) (natI (elems n q)) false true false = natI (elems n (fun w => p w && q w)) := by
  refine rise_extI ((rise_ofI _).filter _) (rise_natI (elems_sorted _ _)) (fun x => ?_)
  rw [pickI, List.mem_filter, mem_ofI, List.mem_append]
  simp only [pickB, Bool.and_false, Bool.or_false, Bool.and_true, Bool.and_eq_true, decide_eq_true_eq, mem_natI, mem_elems]
  constructor
  · rintro ⟨_, ⟨a, ⟨ha, h1⟩, e1⟩, ⟨b, ⟨hb, h2⟩, e2⟩⟩
    have : a = b := by omega
    subst this
    exact ⟨a, ⟨ha, h1, h2⟩, e1⟩
  · rintro ⟨a, ⟨ha, h1, h2⟩, e⟩
    exact ⟨.inl ⟨a, ⟨ha, h1⟩, e⟩, ⟨a, ⟨ha, h1⟩, e⟩, ⟨a, ⟨ha, h2⟩, e⟩⟩
/-- The part of a vertex, by the document. -/
def partR (n : Nat) (Mx : Nat → Nat → Int) (ws : List Int) (v m : Int) : Nat → Bool := fun w => fromR n Mx [v] ws m w && fromR n (fun a b => Mx b a) [v] ws m w
set_option maxHeartbeats 4000000 in
theorem Part_is {W : World} {n c e : Nat} {R B : Option Addr} {Mx : Nat → Nat → Int} {ws : List Int} (h : RefG W n R Mx) (hw : IntsAt W B ws) (v m : Int) :
    Calls Tryd.prog 28 #[.agg #[.int .i64 (n : Int), .slice R n c], .slice B ws.length e, .int .i64 v, .int .i64 m] W (Rets (ListPost W (elems n (partR n Mx ws v m)))) := by
  have hn := h.1
  obtain ⟨W0, hW0⟩ : ∃ W0, W.alloc (.cells #[.int .i64 (n : Int), .slice R n c] 27) = W0 := ⟨_, rfl⟩
  have hf0 : Fr0 W W0 := hW0 ▸ fr_alloc _ _ _
  have hhp : W0.heap[W.heap.size]? = some (.cells #[.int .i64 (n : Int), .slice R n c] 27 (0, 0)) := hW0 ▸ World.alloc_heap_new _ _
  have hG := h.fr0 hf0
  have hB := hw.fr0 hf0
  have hs0 := hf0.size
  have hl1 := elems_len n (fromR n Mx [v] ws m)
  have hl2 := elems_len n (fromR n (fun a b => Mx b a) [v] ws m)
  obtain ⟨w1, hw1⟩ : ∃ w1, W0.alloc (.cells #[.int .i64 v] 3) = w1 := ⟨_, rfl⟩
  have hf1 : Fr0 W0 w1 := hw1 ▸ fr_alloc _ _ _
  have hI1 : IntsAt w1 (some ⟨W0.heap.size, 0, none⟩) [v] := hw1 ▸ ints_new _ _ _
  have HA := Lib.hid (FromR_is (c := c) (d := 1) (e := e) (hG.fr0 hf1) hI1 (hB.fr0 hf1) m)
  have HB := Lib.hid (fun w2 (f : Fr0 W0 w2) => To21_is (c := c) (d := 1) (e := e) ((hG.fr0 f).fr0 (fr_alloc _ w2 (.cells #[.int .i64 v] 3))) (ints_new w2 v 3) ((hB.fr0 f).fr0 (fr_alloc _ w2 (.cells #[.int .i64 v] 3))) m)
  have HP := Lib.hid (pick_both n (fromR n Mx [v] ws m) (fromR n (fun a b => Mx b a) [v] ws m))
  have b0 : W0.cell? ⟨W.heap.size, 0, none⟩ = some (.int .i64 n) := by simp [World.cell?, hhp]
  have b1 : W0.cell? ⟨W.heap.size, 1, none⟩ = some (.slice R n c) := by simp [World.cell?, hhp]
  have hpe : Hid (partR n Mx ws v m = fun w => fromR n Mx [v] ws m w && fromR n (fun a b => Mx b a) [v] ws m w) := Lib.hid rfl
  generalize hp1 : elems n (fromR n Mx [v] ws m) = la at HA HP hl1
  generalize hp2 : elems n (fromR n (fun a b => Mx b a) [v] ws m) = lb at HB HP hl2
  clear hp1 hp2 h hw hG hB hhp hI1
  simp only [List.length_cons, List.length_nil, Nat.zero_add] at HA HB
  have HSZ := Lib.hid hs0
  go_enter Tryd.func28, Tryd.ntmps28
  go_wp2_with (go_at_call 35; (try rw [hW0]); (try rw [hw1]); refine (HA.out).mono ?_; rintro e w2 ⟨v2, rfl, hf2, ho2⟩; obtain ⟨A2, c2, rfl⟩ := own_form ho2; have hF2 : Fr0 W0 w2 := hf1.trans0 hf2; have b0 := hF2.cell b0 (fun x => x); have b1 := hF2.cell b1 (fun x => x))
  go_wp2_with (go_at_call 36; refine (HB.out _ hF2).mono ?_; rintro e w3 ⟨v3, rfl, hf3, ho3⟩; obtain ⟨A3, c3, rfl⟩ := own_form ho3; have hf3' : Fr0 w2 w3 := Fr.trans0 (fr_alloc _ _ _) hf3)
  have ho2' := own_fr0 ho2 hf3'
  have hl1' : la.length ≤ 140737488355328 := by omega
  have hl2' : lb.length ≤ 140737488355328 := by omega
  have e1 : (natI la).length = la.length := by simp [natI]
  have e2 : (natI lb).length = lb.length := by simp [natI]
  have HC := Lib.hid (Pick_is (c := c2) (d := c3) (own_ints ho2' hl1') (by rw [e1]; exact plain_own ho2') (own_ints ho3 hl2') (by rw [e2]; exact plain_own ho3) (by omega) false true false)
  rw [e1, e2, HP.out] at HC
  clear e1 e2
  go_wp2_with (go_at_call 60; refine (HC.out).mono ?_; rintro e w4 ⟨v4, rfl, hL⟩)
  go_ret
  have hL' := hL.nat
  rw [hpe.out]
  exact ⟨_, rfl, ((hf0.trans0 hF2).trans0 hf3').trans0 hL'.1, hL'.2.mono (Nat.le_trans HSZ.out (Nat.le_trans hF2.size hf3'.size))⟩
end Go.Proofs.YtdihpobegoihkaaDoor
