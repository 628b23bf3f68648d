/- The document's closure: Row, Leads, Cyclic. -/
import Derived.Test.YtdihpobegoihkaaDoorFrom
namespace Go.Proofs.YtdihpobegoihkaaDoor
set_option linter.all false
open Go.RowKit
set_option maxRecDepth 100000

/-- What a vertex leads to, by the document. -/
def rowR (n : Nat) (Mx : Nat → Nat → Int) (v m : Int) : Nat → Bool := fromR n Mx (natI (elems n (outR n Mx v m))) (natI (List.range n)) m
def leadsR (n : Nat) (Mx : Nat → Nat → Int) (a b m : Int) : Bool := decide (b ∈ natI (elems n (rowR n Mx a m)))
set_option maxHeartbeats 2000000 in
theorem Row36_is {W : World} {n c : Nat} {R : Option Addr} {Mx : Nat → Nat → Int} (h : RefG W n R Mx) (v m : Int) :
    Calls Tryd.prog 21 #[.agg #[.int .i64 (n : Int), .slice R n c], .int .i64 v, .int .i64 m] W (Rets (ListPost W (elems n (rowR n Mx v m)))) := by
  have hn := h.1
  obtain ⟨W0, hW0⟩ : ∃ W0, W.alloc (.cells #[.int .i64 (n : Int), .slice R n c] 27) = W0 := ⟨_, rfl⟩
  have hf0 : Fr0 W W0 := hW0 ▸ fr_alloc _ _ _
  have hs0 := hf0.size
  have hhp : W0.heap[W.heap.size]? = some (.cells #[.int .i64 (n : Int), .slice R n c] 27 (0, 0)) := hW0 ▸ World.alloc_heap_new _ _
  have b0 : W0.cell? ⟨W.heap.size, 0, none⟩ = some (.int .i64 n) := by simp [World.cell?, hhp]
  have b1 : W0.cell? ⟨W.heap.size, 1, none⟩ = some (.slice R n c) := by simp [World.cell?, hhp]
  have hol := elems_len n (outR n Mx v m)
  have HO := Lib.hid (fun w' (f : Fr0 W0 w') => OutR_is (c := c) (h.fr0 (hf0.trans0 f)) v m)
  have HA := Lib.hid (fun w' => all_is (W := w') (n := n) (by omega))
  have HF := Lib.hid (fun (w' : World) (A B : Option Addr) (d e : Nat) (hA : IntsAt w' A (natI (elems n (outR n Mx v m)))) (hB : IntsAt w' B (natI (List.range n))) (f : Fr0 W0 w') => FromR_is (c := c) (d := d) (e := e) (h.fr0 (hf0.trans0 f)) hA hB m)
  have HE : Hid (rowR n Mx v m = fromR n Mx (natI (elems n (outR n Mx v m))) (natI (List.range n)) m) := Lib.hid rfl
  generalize elems n (outR n Mx v m) = lo at HO HF HE hol
  have hlr : (natI (List.range n)).length = n := by simp [natI]
  have hlo : (natI lo).length = lo.length := by simp [natI]
  simp only [hlr, hlo] at HF
  have HKS := Lib.hid (show ∀ w', Fr0 W0 w' → (Fr0 W0 w' ∧ w'.cell? ⟨W.heap.size, 0, none⟩ = some (.int .i64 n) ∧ w'.cell? ⟨W.heap.size, 1, none⟩ = some (.slice R n c)) from fun w' f => ⟨f, f.cell b0 (fun x => x), f.cell b1 (fun x => x)⟩)
  clear hhp h hlr hlo
  go_enter Tryd.func21, Tryd.ntmps21
  go_wp2_with fail
  clear hW0
  go_region_held_law (fun w' => Fr0 W0 w' ∧ w'.cell? ⟨W.heap.size, 0, none⟩ = some (.int .i64 n) ∧ w'.cell? ⟨W.heap.size, 1, none⟩ = some (.slice R n c))
    ((refine HKS.out _ ?_; first | exact fr_drew _ _ | assumption))
    (first
      | (go_at_call 58; refine (HO.out _ (And.left (by assumption))).mono ?_; rintro e w1 ⟨v1, rfl, hf1, ho1⟩; obtain ⟨A1, c1, rfl⟩ := own_form ho1; have hF1 := Fr.trans0 (And.left (by assumption)) hf1)
      | (go_at_call 59; refine (HA.out _).mono ?_; rintro e w2 ⟨v2, rfl, hf2, ho2⟩; obtain ⟨A2, c2, rfl⟩ := own_form ho2; rw [List.length_range]; have hF2 := hF1.trans0 hf2)
      | (go_at_call 35; refine (HF.out _ _ _ _ _ ((own_ints ho1 (by omega)).fr0 hf2) (own_ints ho2 (by rw [List.length_range]; omega)) hF2).mono ?_; rintro e w3 ⟨v3, rfl, hf3, ho3⟩; have hF3 := hF2.trans0 hf3))
  go_wp2_with fail
  go_ret
  refine ⟨_, rfl, hf0.trans0 hF3, ?_⟩
  rw [HE.out]
  exact ho3.mono (Nat.le_trans hs0 hF2.size)
theorem HasN_is {W : World} {B c : Nat} {A : Option Addr} {l : List Nat} (h : W.ownsRow B 3 1 (.slice A l.length c) l.length (ints l)) (hlen : l.length ≤ 140737488355328) (x : Int) :
    Calls Tryd.prog 42 #[.slice A l.length c, .int .i64 x] W fun e w' => e = .returned (.bool (decide (x ∈ natI l))) ∧ W = w' := by
  have := Has5_is (c := c) (own_ints h hlen) x
  rwa [show (natI l).length = l.length by simp [natI]] at this
theorem Leads36_is {W : World} {n c : Nat} {R : Option Addr} {Mx : Nat → Nat → Int} (h : RefG W n R Mx) (a b m : Int) :
    Calls Tryd.prog 24 #[.agg #[.int .i64 (n : Int), .slice R n c], .int .i64 a, .int .i64 b, .int .i64 m] W (Rets (SamePost (leadsR n Mx a b m) W)) := by
  have hn := h.1
  obtain ⟨W0, hW0⟩ : ∃ W0, W.alloc (.cells #[.int .i64 (n : Int), .slice R n c] 27) = W0 := ⟨_, rfl⟩
  have hf0 : Fr0 W W0 := hW0 ▸ fr_alloc _ _ _
  have hhp : W0.heap[W.heap.size]? = some (.cells #[.int .i64 (n : Int), .slice R n c] 27 (0, 0)) := hW0 ▸ World.alloc_heap_new _ _
  have b0 : W0.cell? ⟨W.heap.size, 0, none⟩ = some (.int .i64 n) := by simp [World.cell?, hhp]
  have b1 : W0.cell? ⟨W.heap.size, 1, none⟩ = some (.slice R n c) := by simp [World.cell?, hhp]
  have HR := Lib.hid (Row36_is (c := c) (h.fr0 hf0) a m)
  have hol := elems_len n (rowR n Mx a m)
  have hE : leadsR n Mx a b m = decide (b ∈ natI (elems n (rowR n Mx a m))) := rfl
  rw [hE]
  clear hE
  generalize elems n (rowR n Mx a m) = l at HR hol ⊢
  clear hhp h
  go_enter Tryd.func24, Tryd.ntmps24
  go_wp2_with (first
    | (go_at_call 21; (try rw [hW0]); refine (HR.out).mono ?_; rintro e w1 ⟨v1, rfl, hf1, ho1⟩; obtain ⟨A1, c1, rfl⟩ := own_form ho1)
    | (go_at_call 42; refine (HasN_is ho1 (by omega) b).mono ?_; rintro e w' ⟨rfl, rfl⟩))
  go_ret
  exact ⟨_, rfl, rfl, hf0.trans0 hf1⟩
theorem Cyclic36_is {W : World} {n c : Nat} {R : Option Addr} {Mx : Nat → Nat → Int} (h : RefG W n R Mx) (m : Int) :
    Calls Tryd.prog 26 #[.agg #[.int .i64 (n : Int), .slice R n c], .int .i64 m] W (Rets (ListPost W (elems n (fun v : Nat => leadsR n Mx v v m)))) := by
  obtain ⟨i0, hi, hz0, hz1, hz2⟩ := info_parts info_int
  have hn := h.1
  have HG := Lib.hid h
  clear h
  obtain ⟨W0, hW0⟩ : ∃ W0, W.alloc (.cells #[.int .i64 (n : Int), .slice R n c] 27) = W0 := ⟨_, rfl⟩
  have hf0 : Fr0 W W0 := hW0 ▸ fr_alloc _ _ _
  have hs0 := hf0.size
  have hhp : W0.heap[W.heap.size]? = some (.cells #[.int .i64 (n : Int), .slice R n c] 27 (0, 0)) := hW0 ▸ World.alloc_heap_new _ _
  have b0 : W0.cell? ⟨W.heap.size, 0, none⟩ = some (.int .i64 n) := by simp [World.cell?, hhp]
  have b1 : W0.cell? ⟨W.heap.size, 1, none⟩ = some (.slice R n c) := by simp [World.cell?, hhp]
  clear hhp
  go_enter Tryd.func26, Tryd.ntmps26
  go_wp2_with fail
  clear hW0
  go_loopw [5, 6] (fun v5 v6 wr => ∃ k : Nat, k ≤ n ∧ v6 = .int .i64 k ∧ Fr0 W0 wr ∧ Hid (wr.ownsRow W0.heap.size 3 1 v5 ((List.range k).filter (fun v : Nat => leadsR n Mx v v m)).length (ints ((List.range k).filter (fun v : Nat => leadsR n Mx v v m))))) (fun _ v6 _ => n - (intOf v6).toNat)
  case atStart => exact ⟨0, by omega, rfl, Fr.refl _ _, Lib.hid (own_nil _ _ _ _)⟩
  case round =>
    obtain ⟨k, hk, rfl, hf, HO⟩ := hrel
    have hsz := hf.size
    have g0 := hf.cell b0 (fun x => x)
    have g1 := hf.cell b1 (fun x => x)
    by_cases hlt : k < n
    · have hlt' : (k : Int) < (n : Int) := by omega
      have hfl : ((List.range k).filter (fun v : Nat => leadsR n Mx v v m)).length ≤ k := Nat.le_trans (List.length_filter_le _ _) (by rw [List.length_range]; exact Nat.le_refl _)
      have HL := Lib.hid (Leads36_is (c := c) (HG.out.fr0 (hf0.trans0 hf)) (k : Int) (k : Int) m)
      have hst := range_succ_filter (fun v : Nat => leadsR n Mx v v m) k
      generalize (List.range k).filter (fun v : Nat => leadsR n Mx v v m) = acc at HO hfl hst
      generalize leadsR n Mx k k m = x1 at HL hst
      obtain ⟨A3, c3, e3⟩ := own_form HO.out
      subst e3
      have HT := Lib.hid hst
      clear hst
      cases x1 with
      | false =>
        go_wp2_with (go_at_call 24; refine (HL.out).mono ?_; rintro e w1 ⟨_, rfl, rfl, hf1⟩)
        go_roundw
        case rel => exact ⟨k + 1, by omega, by go_num, hf.trans0 hf1, Lib.hid (by rw [HT.out, if_neg (by decide)]; simpa using own_fr0 HO.out hf1)⟩
        case measure => simp [intOf]; omega
      | true =>
        go_wp2_with (first | (go_at_call 24; refine (HL.out).mono ?_; rintro e w1 ⟨_, rfl, rfl, hf1⟩; have ho := own_fr0 HO.out hf1; have hs1 := hf1.size) | (at_builtin; refine wpList_append_own _ rfl _ _ 37 rfl W0.heap.size 3 i0 (.int .i64 0) 1 8 Tryd.underlying37 hi hz0 hz1 hz2 rfl (by decide) _ _ _ rfl (own_fr0 ho (fr_alloc _ _ _)) _ 1 1 [.int .i64 (k : Int)] rfl rfl (cell_one_new _ _ _) (by simp [Value.oneCell']) (by unfold maxLen; omega) (by omega) (by simp; omega) ?_; intro v' w2 hown' hgrow _))
        go_roundw
        case rel => exact ⟨k + 1, by omega, by go_num, ((hf.trans0 hf1).alloc _).trans (append_fr0 (own_fr0 ho (fr_alloc _ _ _)) hgrow) (fun j hj e => own_old ho hj e), Lib.hid (by rw [HT.out, if_pos trivial]; rw [ints_snoc] at hown'; simpa using hown')⟩
        case measure => simp [intOf]; omega
    · have hke : k = n := by omega
      subst hke
      go_wp2_with fail
      go_ret
      exact ⟨_, rfl, hf0.trans0 hf, HO.out.mono hs0⟩
end Go.Proofs.YtdihpobegoihkaaDoor
