/- The statements' try of reach at a chain of three. -/
import Derived.Test.YtdihpobegoihkaaDoorBuild21
import Derived.Test.YtdihpobegoihkaaDoorWorks36
namespace Go.Proofs.YtdihpobegoihkaaDoor
set_option linter.all false
open Go.RowKit
set_option maxRecDepth 100000
attribute [local go_sem] run_neq_func

def J2c : List ArcI := [⟨0, 1, 1⟩, ⟨1, 2, 1⟩]
def J2t : List ArcI := [⟨1, 0, 1⟩, ⟨2, 1, 1⟩]
theorem J2c_rise : (J2c.map keyA).Pairwise ltK := by
  simp only [J2c, List.map_cons, List.map_nil, keyA, ltK]
  exact List.pairwise_cons.2 ⟨by simp [ltK], List.pairwise_cons.2 ⟨by simp, List.Pairwise.nil⟩⟩
theorem J2t_rise : (J2t.map keyA).Pairwise ltK := by
  simp only [J2t, List.map_cons, List.map_nil, keyA, ltK]
  exact List.pairwise_cons.2 ⟨by simp [ltK], List.pairwise_cons.2 ⟨by simp, List.Pairwise.nil⟩⟩
theorem built_eq {n : Nat} {l J : List ArcI} (h : Built n l J) (h1 : l.filter (fun a => !dropI a) = l) (h2 : (l.map keyA).Pairwise ltK) (h3 : joinL l = l) : J = l := by
  obtain ⟨_, s, hp, hs, rfl⟩ := h
  rw [h1] at hp
  rw [sorted_uniq hp hs h2, h3]
theorem J2_turn : turnL J2c 3 = J2t := by decide
def fromL (J : List ArcI) (s w : List Int) : Nat → Bool := fromB 3 J 1 (putP 100 (fun _ => false) s) (putP 100 (fun _ => false) w)
theorem W21_a : natI (elems 3 (fromB 3 J2c 1 (putP 100 (fun _ => false) [0]) (putP 100 (fun _ => false) [0, 2]))) = [0] := by decide
theorem W21_b : (elems 3 (fromB 3 J2c 1 (putP 100 (fun _ => false) [0]) (putP 100 (fun _ => false) [0, 1, 2]))).length = 3 := by decide
theorem W21_c : natI (elems 3 (fromB 3 J2t 1 (putP 100 (fun _ => false) [1]) (putP 100 (fun _ => false) [0, 1, 2]))) = [0, 1] := by decide
set_option maxHeartbeats 8000000 in
theorem works21_is {W : World} (hT : Tab W) : Calls Tryd.prog 30 #[] W (Rets (SamePost true W)) := by
  have HT := Lib.hid hT
  have hW1 : Fr0 W (W.alloc (.cells (arcCells J2c).toArray 71)) := fr_alloc _ _ _
  have HB := Lib.hid (build21_is (c := 2) (arcs_lit (W := W.alloc (.cells (arcCells J2c).toArray 71)) (World.alloc_heap_new _ _) (by decide)) (by decide) (n := 3) (by omega) (by decide))
  clear hT
  go_enter Tryd.func30, Tryd.ntmps30
  go_wp2_with (go_at_call 31; refine (HB.out).mono ?_; rintro e w1 ⟨v1, rfl, r, p, pt, J, J', rfl, hf1, hR, hG, hGt, hB1, hB2⟩)
  have e1 := built_eq hB1 (by decide) J2c_rise (by decide)
  subst e1
  rw [J2_turn] at hB2
  have e2 := built_eq hB2 (by decide) J2t_rise (by decide)
  subst e2
  have hFW := hW1.trans0 hf1
  have HT1 := Lib.hid (HT.out.fr hFW (fun x => x))
  have HR := Lib.hid hR
  have HG := Lib.hid hG
  have HGt := Lib.hid hGt
  have hF1 := Fr.refl (fun _ => False) w1
  clear hR hG hGt hB1 hB2 hW1 HB
  go_wp2_with (first
    | (go_at_call 39; refine (InN_is (HR.out.fr0 hF16) _ _ _).mono ?_; rintro e w17 ⟨rfl, hw17⟩; have hf17 : Fr0 w16 w17 := hw17 ▸ (((fr_alloc _ _ _).alloc _).alloc _).alloc _; have hF17 := hF16.trans0 hf17; clear hw17)
    | (go_at_call 38; refine (OutN_is (HR.out.fr0 hF15) _ _ _).mono ?_; rintro e w16 ⟨rfl, hw16⟩; have hf16 : Fr0 w15 w16 := hw16 ▸ (((fr_alloc _ _ _).alloc _).alloc _).alloc _; have hF16 := hF15.trans0 hf16; clear hw16)
    | (go_at_call 37; refine (LenR_is (n := 3) (J := J2c) (HR.out.fr0 hF15) (HG.out.fr0 hF15)).mono ?_; rintro e w' ⟨rfl, rfl⟩)
    | (go_at_call 19; refine (Same_is (c := c14) (d := 2) (xs := [0, 1]) (ys := [0, 1]) (hL14.fr0 (fr_alloc _ _ _)) (ints_lit (World.alloc_heap_new _ _) (by decide))).mono ?_; rintro e w15 ⟨_, rfl, rfl, hf15⟩; rw [show decide (([0, 1] : List Int) = [0, 1]) = true by decide]; have hX15 := (hX13.trans0 hf14).trans0 ((fr_alloc _ w14 (.cells #[.int .i64 0, .int .i64 1] 3)).trans0 hf15); have hF15 := hF10.trans0 hX15)
    | (go_at_call 20; refine (List_is (hI10.fr0 hX13)).mono ?_; rintro e w14 ⟨v14, rfl, hf14, ho14⟩; obtain ⟨A14, c14, rfl⟩ := own_form ho14; obtain ⟨hL14, hl14⟩ := list_ints ho14 W21_c (by decide); rw [hl14]; clear hl14 ho14)
    | (go_at_call 44; refine (Count_is (hI7.fr0 (hZ7.trans0 hX12))).mono ?_; rintro e w13 ⟨_, rfl, rfl, hf13⟩; rw [W21_b]; have hX13 := hX12.trans0 hf13)
    | (go_at_call 19; refine (Same_is (c := c11) (d := 1) (xs := [0]) (ys := [0]) (hL11.fr0 (fr_alloc _ _ _)) (ints_lit (World.alloc_heap_new _ _) (by decide))).mono ?_; rintro e w12 ⟨_, rfl, rfl, hf12⟩; rw [show decide (([0] : List Int) = [0]) = true by decide]; have hF12 := (hF10.trans0 hf11).trans0 ((fr_alloc _ w11 (.cells #[.int .i64 0] 3)).trans0 hf12); have hX12 : Fr0 w10 w12 := hf11.trans0 ((fr_alloc _ w11 (.cells #[.int .i64 0] 3)).trans0 hf12))
    | (go_at_call 20; refine (List_is (hI4.fr0 hZ4)).mono ?_; rintro e w11 ⟨v11, rfl, hf11, ho11⟩; obtain ⟨A11, c11, rfl⟩ := own_form ho11; obtain ⟨hL11, hl11⟩ := list_ints ho11 W21_a (by decide); rw [hl11]; clear hl11 ho11)
    | (go_at_call 34; refine (ToG_is (n := 3) (J := J2t) (HR.out.fr0 hF9) (HGt.out.fr0 hF9) hM8 hI9 1).mono ?_; rintro e w10 ⟨_, rfl, g10, a10, rfl, _, _, hf10, hI10⟩; have hF10 := hF9.trans0 hf10; have hZ7 : Fr0 w7 w10 := (((fr_alloc _ w7 (.cells #[.int .i64 1] 3)).trans0 hf8).trans0 ((fr_alloc _ w8 (.cells #[.int .i64 0, .int .i64 1, .int .i64 2] 3)).trans0 hf9)).trans0 hf10; have hZ4 : Fr0 w4 w10 := ((((fr_alloc _ w4 (.cells #[.int .i64 0] 3)).trans0 hf5).trans0 ((fr_alloc _ w5 (.cells #[.int .i64 0, .int .i64 1, .int .i64 2] 3)).trans0 hf6)).trans0 hf7).trans0 hZ7)
    | (go_at_call 33; refine (set21_is (c := 3) (xs := [0, 1, 2]) (HT1.out.fr (hF8.trans0 (fr_alloc _ w8 (.cells #[.int .i64 0, .int .i64 1, .int .i64 2] 3))) (fun x => x)) (ints_lit (World.alloc_heap_new _ _) (by decide))).mono ?_; rintro e w9 ⟨_, rfl, g9, a9, rfl, _, _, hf9, hI9⟩; have hF9 := (hF8.trans0 (fr_alloc _ w8 (.cells #[.int .i64 0, .int .i64 1, .int .i64 2] 3))).trans0 hf9; have hM8 := hI8.fr0 ((fr_alloc _ w8 (.cells #[.int .i64 0, .int .i64 1, .int .i64 2] 3)).trans0 hf9))
    | (go_at_call 33; refine (set21_is (c := 1) (xs := [1]) (HT1.out.fr (hF7.trans0 (fr_alloc _ w7 (.cells #[.int .i64 1] 3))) (fun x => x)) (ints_lit (World.alloc_heap_new _ _) (by decide))).mono ?_; rintro e w8 ⟨_, rfl, g8, a8, rfl, _, _, hf8, hI8⟩; have hF8 := (hF7.trans0 (fr_alloc _ w7 (.cells #[.int .i64 1] 3))).trans0 hf8)
    | (go_at_call 32; refine (FromG_is (n := 3) (J := J2c) (HR.out.fr0 hF6) (HG.out.fr0 hF6) hM5 hI6 1).mono ?_; rintro e w7 ⟨_, rfl, g7, a7, rfl, _, _, hf7, hI7⟩; have hF7 := hF6.trans0 hf7)
    | (go_at_call 33; refine (set21_is (c := 3) (xs := [0, 1, 2]) (HT1.out.fr (hF5.trans0 (fr_alloc _ w5 (.cells #[.int .i64 0, .int .i64 1, .int .i64 2] 3))) (fun x => x)) (ints_lit (World.alloc_heap_new _ _) (by decide))).mono ?_; rintro e w6 ⟨_, rfl, g6, a6, rfl, _, _, hf6, hI6⟩; have hF6 := (hF5.trans0 (fr_alloc _ w5 (.cells #[.int .i64 0, .int .i64 1, .int .i64 2] 3))).trans0 hf6; have hM5 := hI5.fr0 ((fr_alloc _ w5 (.cells #[.int .i64 0, .int .i64 1, .int .i64 2] 3)).trans0 hf6))
    | (go_at_call 33; refine (set21_is (c := 1) (xs := [0]) (HT1.out.fr (hF4.trans0 (fr_alloc _ w4 (.cells #[.int .i64 0] 3))) (fun x => x)) (ints_lit (World.alloc_heap_new _ _) (by decide))).mono ?_; rintro e w5 ⟨_, rfl, g5, a5, rfl, _, _, hf5, hI5⟩; have hF5 := (hF4.trans0 (fr_alloc _ w4 (.cells #[.int .i64 0] 3))).trans0 hf5)
    | (go_at_call 32; refine (FromG_is (n := 3) (J := J2c) (HR.out.fr0 hF3) (HG.out.fr0 hF3) hM2 hI3 1).mono ?_; rintro e w4 ⟨_, rfl, g4, a4, rfl, _, _, hf4, hI4⟩; have hF4 := hF3.trans0 hf4)
    | (go_at_call 33; refine (set21_is (c := 2) (xs := [0, 2]) (HT1.out.fr (hF2.trans0 (fr_alloc _ w2 (.cells #[.int .i64 0, .int .i64 2] 3))) (fun x => x)) (ints_lit (World.alloc_heap_new _ _) (by decide))).mono ?_; rintro e w3 ⟨_, rfl, g3, a3, rfl, _, _, hf3, hI3⟩; have hF3 := (hF2.trans0 (fr_alloc _ w2 (.cells #[.int .i64 0, .int .i64 2] 3))).trans0 hf3; have hM2 := hI2.fr0 ((fr_alloc _ w2 (.cells #[.int .i64 0, .int .i64 2] 3)).trans0 hf3))
    | (go_at_call 33; refine (set21_is (c := 1) (xs := [0]) (HT1.out.fr (hF1.trans0 (fr_alloc _ w1 (.cells #[.int .i64 0] 3))) (fun x => x)) (ints_lit (World.alloc_heap_new _ _) (by decide))).mono ?_; rintro e w2 ⟨_, rfl, g2, a2, rfl, _, _, hf2, hI2⟩; have hF2 := (hF1.trans0 (fr_alloc _ w1 (.cells #[.int .i64 0] 3))).trans0 hf2))
  go_ret
  exact ⟨_, rfl, rfl, hFW.trans0 hF17⟩
end Go.Proofs.YtdihpobegoihkaaDoor
