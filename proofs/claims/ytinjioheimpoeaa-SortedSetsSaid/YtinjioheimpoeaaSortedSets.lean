/- The sets of any numbers, what is in one of two, in both, in the one alone, are as the document says: the law's walk. -/
import Derived.Test.YtinjioheimpoeaaWorks05
import Derived.Test.YtinjioheimpoeaaPick
import Derived.Test.YtinjioheimpoeaaSetsInv
namespace Go.Proofs.Ytinjioheimpoeaa
set_option linter.all false
open Go.RowKit
set_option maxRecDepth 100000

theorem pick_or (a b : List Int) : pickI a b true true true = ofI (ofI a ++ ofI b) := by
  refine rise_extI ((rise_ofI _).filter _) (rise_ofI _) fun x => ?_
  rw [pickI, List.mem_filter, mem_ofI, mem_ofI, List.mem_append, List.mem_append, mem_ofI, mem_ofI]
  constructor
  · exact fun h => h.1
  · intro h
    refine ⟨h, ?_⟩
    by_cases h1 : x ∈ a <;> by_cases h2 : x ∈ b <;> simp [pickB, h1, h2] at h ⊢
theorem pick_and (a b : List Int) : pickI a b false true false = (ofI a).filter (fun x => decide (x ∈ ofI b)) := by
  refine rise_extI ((rise_ofI _).filter _) ((rise_ofI _).filter _) fun x => ?_
  rw [pickI, List.mem_filter, List.mem_filter, mem_ofI, mem_ofI, List.mem_append, decide_eq_true_iff, mem_ofI]
  by_cases h1 : x ∈ a <;> by_cases h2 : x ∈ b <;> simp [pickB, h1, h2]
theorem pick_minus (a b : List Int) : pickI a b true false false = (ofI a).filter (fun x => !decide (x ∈ ofI b)) := by
  refine rise_extI ((rise_ofI _).filter _) ((rise_ofI _).filter _) fun x => ?_
  rw [pickI, List.mem_filter, List.mem_filter, mem_ofI, mem_ofI, List.mem_append]
  simp only [Bool.not_eq_true', decide_eq_false_iff_not, mem_ofI]
  by_cases h1 : x ∈ a <;> by_cases h2 : x ∈ b <;> simp [pickB, h1, h2]
theorem mem_dec (a : List Int) (x : Int) : decide (x ∈ ofI a) = decide (x ∈ a) := by rw [Bool.eq_iff_iff, decide_eq_true_iff, decide_eq_true_iff, mem_ofI]
/-- What lies at a world from which on nothing that was there is turned. -/
abbrev FrN (W W' : World) : Prop := Fr (fun k => W.heap.size ≤ k) W W'
theorem FrN.fr0 {W W' : World} (h : Fr0 W W') : FrN W W' := h.mono (fun _ _ h => h.elim)
theorem FrN.to0 {W W' : World} (h : FrN W W') : Fr0 W W' := h.mono (fun j hj e => by omega)
set_option maxHeartbeats 16000000 in
theorem SortedSets_is {W : World} {A B : Option Addr} {c d : Nat} {xs ys : List Int} {x : Int} (hx : IntsAt W A xs) (hpx : Plain A xs.length c) (hy : IntsAt W B ys) (hpy : Plain B ys.length d) :
    Calls Try.prog 3 #[.slice A xs.length c, .slice B ys.length d, .int .i64 x] W (Rets (SamePost true W)) := by
  by_cases h60 : xs.length > 60
  · have h60' : (xs.length : Int) > 60 := by omega
    clear hx hpx hy hpy
    go_enter Try.func3, Try.ntmps3
    go_wp2_with (go_at_call 14; refine (works05_is _).mono ?_; rintro e w' ⟨_, rfl, rfl, hf1⟩)
    go_ret
    exact ⟨_, rfl, rfl, hf1⟩
  · have h60' : ¬ (xs.length : Int) > 60 := by omega
    by_cases h61 : ys.length > 60
    · have h61' : (ys.length : Int) > 60 := by omega
      clear hx hpx hy hpy
      go_enter Try.func3, Try.ntmps3
      go_wp2_with (go_at_call 14; refine (works05_is _).mono ?_; rintro e w' ⟨_, rfl, rfl, hf1⟩)
      go_ret
      exact ⟨_, rfl, rfl, hf1⟩
    · have h61' : ¬ (ys.length : Int) > 60 := by omega
      have HX := Lib.hid hx
      have HY := Lib.hid hy
      have HPX := Lib.hid hpx
      have HPY := Lib.hid hpy
      have hl1 := len_ofI xs
      have hl2 := len_ofI ys
      have E1 := Lib.hid (pick_or xs ys)
      have E2 := Lib.hid (pick_and xs ys)
      have E3 := Lib.hid (pick_minus xs ys)
      have E4 := Lib.hid (mem_dec xs x)
      have HA := Lib.hid (SOf_is hx hpx (by omega))
      have HB := Lib.hid (fun w' (f : Fr0 W w') => SOf_is (hy.fr0 f) hpy (by omega))
      have HWI := Lib.hid (fun w' (f : Fr0 W w') (A : Option Addr) (c : Nat) (h : SetAt w' A c (ofI xs)) => SWith_is h (hy.fr0 f) hpy (by omega))
      have HOX := Lib.hid (fun w' (f : Fr0 W w') => Of_is (c := c) (hx.fr0 f) (by omega))
      have HOY := Lib.hid (fun w' (f : Fr0 W w') => Of_is (c := d) (hy.fr0 f) (by omega))
      have HPK := Lib.hid (fun w' (f : Fr0 W w') => Pick_is (hx.fr0 f) hpx (hy.fr0 f) hpy (by omega))
      generalize ofI xs = zs at hl1 E1 E2 E3 E4 HA HWI HOX
      generalize ofI ys = ts at hl2 E1 E2 E3 HB HWI HOY
      clear hx hpx hy hpy
      go_enter Try.func3, Try.ntmps3
      go_wp2_with (first
        | (go_at_call 15; refine (HB.out _ hf1).mono ?_; rintro e w2 ⟨_, rfl, A2, c2, rfl, hf2, hS2, _⟩; have hF2 := hf1.trans0 hf2)
        | (go_at_call 15; refine (HA.out).mono ?_; rintro e w1 ⟨_, rfl, A1, c1, rfl, hf1, hS1, _⟩))
      have hS1b := hS1.fr0 hf2
      obtain ⟨wr, hwr⟩ : ∃ wr, (w2.alloc (.cells #[.slice A1 zs.length c1] 25)).alloc (.cells #[.slice A2 ts.length c2] 25) = wr := ⟨_, rfl⟩
      have hfr : Fr0 w2 wr := hwr ▸ (fr_alloc _ _ _).alloc _
      have hFR : Fr0 W wr := hF2.trans0 hfr
      have hb1 : Box wr w2.heap.size 25 (.slice A1 zs.length c1) := hwr ▸ (Box.new w2 _ _).fr0 (fr_alloc _ _ _)
      have hb2 : Box wr (w2.heap.size + 1) 25 (.slice A2 ts.length c2) := by
        have := Box.new (w2.alloc (.cells #[.slice A1 zs.length c1] 25)) 25 (.slice A2 ts.length c2)
        rw [World.size_alloc] at this
        exact hwr ▸ this
      have HS1 := Lib.hid (hS1b.fr0 hfr)
      have HS2 := Lib.hid (hS2.fr0 hfr)
      have k1 := hb1.cell
      have k2 := hb2.cell
      rw [hwr]
      clear hf1 hf2 hS1 hS2 hS1b hwr HA HB
      go_upto_region 4 with (fail)
      refine wp_region_until (by kernel_rfl) (I4 wr (setV A1 zs.length c1) (setV A2 ts.length c2) (.slice B ys.length d) (ofI (zs ++ ts)) (zs.filter (fun x => decide (x ∈ ts))) (zs.filter (fun x => !decide (x ∈ ts))) (ofI (zs ++ ts)) (.slice A xs.length c) (.slice B ys.length d) (.int .i64 x) undef undef undef (.bool false) (.pointer (some ⟨w2.heap.size, 0, none⟩)) (.pointer (some ⟨w2.heap.size + 1, 0, none⟩)) (.slice A xs.length c) (.int .i64 xs.length) (.bool false) (.bool false) (.slice B ys.length d) (.int .i64 ys.length) (.bool false) (.bool false) undef (.slice A xs.length c) (setV A1 zs.length c1) (.slice B ys.length d) (setV A2 ts.length c2)) stop4 ?_ ?_ ?_ ?_
      · exact ⟨false, false, false, false, false, false, false, false, false, false, false, false, false, false, false, false, undef, undef, undef, undef, undef, undef, undef, undef, undef, undef, undef, undef, undef, undef, undef, undef, rfl, rfl, C4.zero (fr_drew _ _)⟩
      · intro L a w' hI hs i hi
        obtain ⟨c0, c1, c2, c3, c4, c5, c6, c7, c8, c9, c10, c11, c12, c13, c14, c15, u9, u10, u11, u12, u26, u27, u28, u29, u30, u31, u32, u33, u34, u35, u36, u37, rfl, rfl, C⟩ := hI
        have h20 : i < 20 := ready_lt hi
        have z1 := C.fr.cell k1 (fun x => x)
        have z2 := C.fr.cell k2 (fun x => x)
        have hcs : i = 0 ∨ i = 1 ∨ i = 2 ∨ i = 3 ∨ i = 4 ∨ i = 5 ∨ i = 6 ∨ i = 7 ∨ i = 8 ∨ i = 9 ∨ i = 10 ∨ i = 11 ∨ i = 12 ∨ i = 13 ∨ i = 14 ∨ i = 15 ∨ i = 16 ∨ i = 17 ∨ i = 18 ∨ i = 19 := by omega
        clear h20
        rcases hcs with rfl | rfl | rfl | rfl | rfl | rfl | rfl | rfl | rfl | rfl | rfl | rfl | rfl | rfl | rfl | rfl | rfl | rfl | rfl | rfl
        · refine wpOp_step rfl (fun K hK => ?_)
          have HK := Lib.hid hK
          clear hK hi hs
          go_simp
          exact HK.out _ _ ⟨true, c1, c2, c3, c4, c5, c6, c7, c8, c9, c10, c11, c12, c13, c14, c15, _, _, _, _, _, _, _, _, _, _, _, _, _, _, _, _, rfl, rfl, C.load0⟩
        · refine wpOp_step rfl (fun K hK => ?_)
          have HK := Lib.hid hK
          clear hK hi hs
          go_simp
          exact HK.out _ _ ⟨c0, true, c2, c3, c4, c5, c6, c7, c8, c9, c10, c11, c12, c13, c14, c15, _, _, _, _, _, _, _, _, _, _, _, _, _, _, _, _, rfl, rfl, C.load1⟩
        · have g0 : c0 = true := ready_edge (j := 0) hi rfl rfl rfl
          have g1 : c1 = true := ready_edge (j := 1) hi rfl rfl rfl
          have e1 := C.k0 g0
          have e2 := C.k1 g1
          subst e1 e2
          refine wpOp_step rfl (fun K hK => ?_)
          have HK := Lib.hid hK
          clear hK hi hs
          go_simp
          go_wp2_with (go_at_call 16; refine (SOr_is (HS1.out.fr0 C.fr) (HS2.out.fr0 C.fr) (by omega)).mono ?_; rintro e w3 ⟨_, rfl, A3, m3, rfl, hf3, hS3, _⟩)
          exact HK.out _ _ ⟨c0, c1, true, c3, c4, c5, c6, c7, c8, c9, c10, c11, c12, c13, c14, c15, _, _, _, _, _, _, _, _, _, _, _, _, _, _, _, _, rfl, rfl, C.call2 hf3 ⟨A3, m3, rfl, hS3⟩ ⟨g0, g1⟩⟩
        · refine wpOp_step rfl (fun K hK => ?_)
          have HK := Lib.hid hK
          clear hK hi hs
          go_simp
          exact HK.out _ _ ⟨c0, c1, c2, true, c4, c5, c6, c7, c8, c9, c10, c11, c12, c13, c14, c15, _, _, _, _, _, _, _, _, _, _, _, _, _, _, _, _, rfl, rfl, C.load3⟩
        · refine wpOp_step rfl (fun K hK => ?_)
          have HK := Lib.hid hK
          clear hK hi hs
          go_simp
          exact HK.out _ _ ⟨c0, c1, c2, c3, true, c5, c6, c7, c8, c9, c10, c11, c12, c13, c14, c15, _, _, _, _, _, _, _, _, _, _, _, _, _, _, _, _, rfl, rfl, C.load4⟩
        · have g3 : c3 = true := ready_edge (j := 0) hi rfl rfl rfl
          have g4 : c4 = true := ready_edge (j := 1) hi rfl rfl rfl
          have g2 : c2 = true := ready_edge (j := 2) hi rfl rfl rfl
          have e1 := C.k3 g3
          have e2 := C.k4 g4
          subst e1 e2
          refine wpOp_step rfl (fun K hK => ?_)
          have HK := Lib.hid hK
          clear hK hi hs
          go_simp
          go_wp2_with (go_at_call 17; refine (SAnd_is (HS1.out.fr0 C.fr) (HS2.out.fr0 C.fr)).mono ?_; rintro e w3 ⟨_, rfl, A3, m3, rfl, hf3, hS3, _⟩)
          exact HK.out _ _ ⟨c0, c1, c2, c3, c4, true, c6, c7, c8, c9, c10, c11, c12, c13, c14, c15, _, _, _, _, _, _, _, _, _, _, _, _, _, _, _, _, rfl, rfl, C.call5 hf3 ⟨A3, m3, rfl, hS3⟩ ⟨g3, g4, g2⟩⟩
        · refine wpOp_step rfl (fun K hK => ?_)
          have HK := Lib.hid hK
          clear hK hi hs
          go_simp
          exact HK.out _ _ ⟨c0, c1, c2, c3, c4, c5, true, c7, c8, c9, c10, c11, c12, c13, c14, c15, _, _, _, _, _, _, _, _, _, _, _, _, _, _, _, _, rfl, rfl, C.load6⟩
        · refine wpOp_step rfl (fun K hK => ?_)
          have HK := Lib.hid hK
          clear hK hi hs
          go_simp
          exact HK.out _ _ ⟨c0, c1, c2, c3, c4, c5, c6, true, c8, c9, c10, c11, c12, c13, c14, c15, _, _, _, _, _, _, _, _, _, _, _, _, _, _, _, _, rfl, rfl, C.load7⟩
        · have g6 : c6 = true := ready_edge (j := 0) hi rfl rfl rfl
          have g7 : c7 = true := ready_edge (j := 1) hi rfl rfl rfl
          have g5 : c5 = true := ready_edge (j := 2) hi rfl rfl rfl
          have e1 := C.k6 g6
          have e2 := C.k7 g7
          subst e1 e2
          refine wpOp_step rfl (fun K hK => ?_)
          have HK := Lib.hid hK
          clear hK hi hs
          go_simp
          go_wp2_with (go_at_call 18; refine (SMinus_is (HS1.out.fr0 C.fr) (HS2.out.fr0 C.fr)).mono ?_; rintro e w3 ⟨_, rfl, A3, m3, rfl, hf3, hS3, _⟩)
          exact HK.out _ _ ⟨c0, c1, c2, c3, c4, c5, c6, c7, true, c9, c10, c11, c12, c13, c14, c15, _, _, _, _, _, _, _, _, _, _, _, _, _, _, _, _, rfl, rfl, C.call8 hf3 ⟨A3, m3, rfl, hS3⟩ ⟨g6, g7, g5⟩⟩
        · refine wpOp_step rfl (fun K hK => ?_)
          have HK := Lib.hid hK
          clear hK hi hs
          go_simp
          exact HK.out _ _ ⟨c0, c1, c2, c3, c4, c5, c6, c7, c8, true, c10, c11, c12, c13, c14, c15, _, _, _, _, _, _, _, _, _, _, _, _, _, _, _, _, rfl, rfl, C.load9⟩
        · refine wpOp_step rfl (fun K hK => ?_)
          have HK := Lib.hid hK
          clear hK hi hs
          go_simp
          exact HK.out _ _ ⟨c0, c1, c2, c3, c4, c5, c6, c7, c8, c9, true, c11, c12, c13, c14, c15, _, _, _, _, _, _, _, _, _, _, _, _, _, _, _, _, rfl, rfl, C.load10⟩
        · have g9 : c9 = true := ready_edge (j := 0) hi rfl rfl rfl
          have g10 : c10 = true := ready_edge (j := 1) hi rfl rfl rfl
          have g8 : c8 = true := ready_edge (j := 2) hi rfl rfl rfl
          have e1 := C.k9 g9
          have e2 := C.k10 g10
          subst e1 e2
          refine wpOp_step rfl (fun K hK => ?_)
          have HK := Lib.hid hK
          clear hK hi hs
          go_simp
          go_wp2_with (go_at_call 19; refine (HWI.out _ (hFR.trans0 C.fr) _ _ (HS1.out.fr0 C.fr)).mono ?_; rintro e w3 ⟨_, rfl, A3, m3, rfl, hf3, hS3, _⟩)
          exact HK.out _ _ ⟨c0, c1, c2, c3, c4, c5, c6, c7, c8, c9, c10, true, c12, c13, c14, c15, _, _, _, _, _, _, _, _, _, _, _, _, _, _, _, _, rfl, rfl, C.call11 hf3 ⟨A3, m3, rfl, hS3⟩ ⟨g9, g10, g8⟩⟩
        · refine wpOp_step rfl (fun K hK => ?_)
          have HK := Lib.hid hK
          clear hK hi hs
          go_simp
          exact HK.out _ _ ⟨c0, c1, c2, c3, c4, c5, c6, c7, c8, c9, c10, c11, true, c13, c14, c15, _, _, _, _, _, _, _, _, _, _, _, _, _, _, _, _, rfl, rfl, C.alloc12⟩
        · refine wpOp_step rfl (fun K hK => ?_)
          have HK := Lib.hid hK
          clear hK hi hs
          go_simp
          exact HK.out _ _ ⟨c0, c1, c2, c3, c4, c5, c6, c7, c8, c9, c10, c11, c12, true, c14, c15, _, _, _, _, _, _, _, _, _, _, _, _, _, _, _, _, rfl, rfl, C.alloc13⟩
        · refine wpOp_step rfl (fun K hK => ?_)
          have HK := Lib.hid hK
          clear hK hi hs
          go_simp
          exact HK.out _ _ ⟨c0, c1, c2, c3, c4, c5, c6, c7, c8, c9, c10, c11, c12, c13, true, c15, _, _, _, _, _, _, _, _, _, _, _, _, _, _, _, _, rfl, rfl, C.alloc14⟩
        · refine wpOp_step rfl (fun K hK => ?_)
          have HK := Lib.hid hK
          clear hK hi hs
          go_simp
          exact HK.out _ _ ⟨c0, c1, c2, c3, c4, c5, c6, c7, c8, c9, c10, c11, c12, c13, c14, true, _, _, _, _, _, _, _, _, _, _, _, _, _, _, _, _, rfl, rfl, C.alloc15⟩
        · have g12 : c12 = true := ready_edge (j := 0) hi rfl rfl rfl
          have g11 : c11 = true := ready_edge (j := 2) hi rfl rfl rfl
          have g13 : c13 = true := ready_edge (j := 16) hi rfl rfl rfl
          have g14 : c14 = true := ready_edge (j := 17) hi rfl rfl rfl
          have g15 : c15 = true := ready_edge (j := 18) hi rfl rfl rfl
          obtain ⟨g9, g10, g8⟩ := C.o11 g11
          obtain ⟨g6, g7, g5⟩ := C.o8 g8
          obtain ⟨g3, g4, g2⟩ := C.o5 g5
          obtain ⟨g0, g1⟩ := C.o2 g2
          subst g0 g1 g2 g3 g4 g5 g6 g7 g8 g9 g10 g11 g12 g13 g14 g15
          exact nomatch (show true = false from hs)
        · exact nomatch (show false = true from ready_edge (j := 2) hi rfl rfl rfl)
        · exact nomatch (show false = true from ready_edge (j := 2) hi rfl rfl rfl)
        · exact nomatch (show false = true from ready_edge (j := 2) hi rfl rfl rfl)
      · intro L a w' hI hs
        obtain ⟨c0, c1, c2, c3, c4, c5, c6, c7, c8, c9, c10, c11, c12, c13, c14, c15, u9, u10, u11, u12, u26, u27, u28, u29, u30, u31, u32, u33, u34, u35, u36, u37, rfl, rfl, C⟩ := hI
        exact ready_ne (by kernel_rfl) rfl 16 rfl
      · intro L a w' hI hs
        obtain ⟨c0, c1, c2, c3, c4, c5, c6, c7, c8, c9, c10, c11, c12, c13, c14, c15, u9, u10, u11, u12, u26, u27, u28, u29, u30, u31, u32, u33, u34, u35, u36, u37, rfl, rfl, C⟩ := hI
        have hs' : (c0 && c1 && c2 && c3 && c4 && c5 && c6 && c7 && c8 && c9 && c10 && c11 && c12 && c13 && c14 && c15) = true := hs
        simp only [Bool.and_eq_true] at hs'
        obtain ⟨⟨⟨⟨⟨⟨⟨⟨⟨⟨⟨⟨⟨⟨⟨g0, g1⟩, g2⟩, g3⟩, g4⟩, g5⟩, g6⟩, g7⟩, g8⟩, g9⟩, g10⟩, g11⟩, g12⟩, g13⟩, g14⟩, g15⟩ := hs'
        subst g0 g1 g2 g3 g4 g5 g6 g7 g8 g9 g10 g11 g12 g13 g14 g15
        obtain ⟨A3, m3, e3, hS3⟩ := C.k2 rfl
        obtain ⟨A4, m4, e4, hS4⟩ := C.k5 rfl
        obtain ⟨A5, m5, e5, hS5⟩ := C.k8 rfl
        obtain ⟨A6, m6, e6, hS6⟩ := C.k11 rfl
        obtain ⟨p9, f9, hp9, hb9⟩ := C.k12 rfl
        obtain ⟨p10, f10, hp10, hb10⟩ := C.k13 rfl
        obtain ⟨p11, f11, hp11, hb11⟩ := C.k14 rfl
        obtain ⟨p12, f12, hp12, hb12⟩ := C.k15 rfl
        have n9_10 : p9 ≠ p10 := fun e => C.d12_13 rfl rfl (by rw [f9, f10, e])
        have n9_11 : p9 ≠ p11 := fun e => C.d12_14 rfl rfl (by rw [f9, f11, e])
        have n9_12 : p9 ≠ p12 := fun e => C.d12_15 rfl rfl (by rw [f9, f12, e])
        have n10_11 : p10 ≠ p11 := fun e => C.d13_14 rfl rfl (by rw [f10, f11, e])
        have n10_12 : p10 ≠ p12 := fun e => C.d13_15 rfl rfl (by rw [f10, f12, e])
        have n11_12 : p11 ≠ p12 := fun e => C.d14_15 rfl rfl (by rw [f11, f12, e])
        have hF := C.fr
        have j0 := C.k0 rfl
        have j1 := C.k1 rfl
        have j3 := C.k3 rfl
        have j4 := C.k4 rfl
        have j6 := C.k6 rfl
        have j7 := C.k7 rfl
        have j9 := C.k9 rfl
        have j10 := C.k10 rfl
        subst e3 e4 e5 e6 f9 f10 f11 f12 j0 j1 j3 j4 j6 j7 j9 j10
        clear C hs
        change wpAny _ _ _ _ 4 _ _ _
        refine wpAny_all (rs := [16]) (by kernel_rfl) (by simp) (fun i hi => ?_)
        obtain rfl := List.mem_singleton.1 hi
        refine wpOp_step rfl (fun K hK => ?_)
        have HK := Lib.hid hK
        clear hK hi
        have q1 := hb9.cell
        have q2 := hb9.frozen
        go_simp
        refine HK.out _ _ ?_
        clear HK K q1 q2
        have hFS : Fr (fun j => j = p9) w' (w'.setCell ⟨p9, 0, none⟩ (.slice A3 (ofI (zs ++ ts)).length m3)) := fr_setCell _ _ _ (fun _ => rfl)
        replace hS3 := hS3.off_box2 hb9 hFS
        replace hS4 := hS4.off_box2 hb9 hFS
        replace hS5 := hS5.off_box2 hb9 hFS
        replace hS6 := hS6.off_box2 hb9 hFS
        replace hF := hF.trans hFS (fun j hj e => by omega)
        replace hb10 := hb10.fr hFS (fun e => n9_10 e.symm)
        replace hb11 := hb11.fr hFS (fun e => n9_11 e.symm)
        replace hb12 := hb12.fr hFS (fun e => n9_12 e.symm)
        replace hb9 := hb9.set (.slice A3 (ofI (zs ++ ts)).length m3)
        obtain ⟨wn, hwn⟩ : ∃ wn, w'.setCell ⟨p9, 0, none⟩ (.slice A3 (ofI (zs ++ ts)).length m3) = wn := ⟨_, rfl⟩
        rw [hwn] at hS3 hS4 hS5 hS6 hF hb9 hb10 hb11 hb12
        (try simp only [List.setIfInBounds_toArray, List.set_cons_zero, List.set_cons_succ])
        rw [hwn]
        clear hwn hFS w'
        obtain ⟨w', hw'⟩ : ∃ w', w' = wn := ⟨_, rfl⟩
        subst hw'
        refine wpAny_all (rs := [17]) (by kernel_rfl) (by simp) (fun i hi => ?_)
        obtain rfl := List.mem_singleton.1 hi
        refine wpOp_step rfl (fun K hK => ?_)
        have HK := Lib.hid hK
        clear hK hi
        have q1 := hb10.cell
        have q2 := hb10.frozen
        go_simp
        refine HK.out _ _ ?_
        clear HK K q1 q2
        have hFS : Fr (fun j => j = p10) w' (w'.setCell ⟨p10, 0, none⟩ (.slice A4 (zs.filter (fun x => decide (x ∈ ts))).length m4)) := fr_setCell _ _ _ (fun _ => rfl)
        replace hS3 := hS3.off_box2 hb10 hFS
        replace hS4 := hS4.off_box2 hb10 hFS
        replace hS5 := hS5.off_box2 hb10 hFS
        replace hS6 := hS6.off_box2 hb10 hFS
        replace hF := hF.trans hFS (fun j hj e => by omega)
        replace hb9 := hb9.fr hFS (fun e => n9_10 e)
        replace hb11 := hb11.fr hFS (fun e => n10_11 e.symm)
        replace hb12 := hb12.fr hFS (fun e => n10_12 e.symm)
        replace hb10 := hb10.set (.slice A4 (zs.filter (fun x => decide (x ∈ ts))).length m4)
        obtain ⟨wn, hwn⟩ : ∃ wn, w'.setCell ⟨p10, 0, none⟩ (.slice A4 (zs.filter (fun x => decide (x ∈ ts))).length m4) = wn := ⟨_, rfl⟩
        rw [hwn] at hS3 hS4 hS5 hS6 hF hb9 hb10 hb11 hb12
        (try simp only [List.setIfInBounds_toArray, List.set_cons_zero, List.set_cons_succ])
        rw [hwn]
        clear hwn hFS w'
        obtain ⟨w', hw'⟩ : ∃ w', w' = wn := ⟨_, rfl⟩
        subst hw'
        refine wpAny_all (rs := [18]) (by kernel_rfl) (by simp) (fun i hi => ?_)
        obtain rfl := List.mem_singleton.1 hi
        refine wpOp_step rfl (fun K hK => ?_)
        have HK := Lib.hid hK
        clear hK hi
        have q1 := hb11.cell
        have q2 := hb11.frozen
        go_simp
        refine HK.out _ _ ?_
        clear HK K q1 q2
        have hFS : Fr (fun j => j = p11) w' (w'.setCell ⟨p11, 0, none⟩ (.slice A5 (zs.filter (fun x => !decide (x ∈ ts))).length m5)) := fr_setCell _ _ _ (fun _ => rfl)
        replace hS3 := hS3.off_box2 hb11 hFS
        replace hS4 := hS4.off_box2 hb11 hFS
        replace hS5 := hS5.off_box2 hb11 hFS
        replace hS6 := hS6.off_box2 hb11 hFS
        replace hF := hF.trans hFS (fun j hj e => by omega)
        replace hb9 := hb9.fr hFS (fun e => n9_11 e)
        replace hb10 := hb10.fr hFS (fun e => n10_11 e)
        replace hb12 := hb12.fr hFS (fun e => n11_12 e.symm)
        replace hb11 := hb11.set (.slice A5 (zs.filter (fun x => !decide (x ∈ ts))).length m5)
        obtain ⟨wn, hwn⟩ : ∃ wn, w'.setCell ⟨p11, 0, none⟩ (.slice A5 (zs.filter (fun x => !decide (x ∈ ts))).length m5) = wn := ⟨_, rfl⟩
        rw [hwn] at hS3 hS4 hS5 hS6 hF hb9 hb10 hb11 hb12
        (try simp only [List.setIfInBounds_toArray, List.set_cons_zero, List.set_cons_succ])
        rw [hwn]
        clear hwn hFS w'
        obtain ⟨w', hw'⟩ : ∃ w', w' = wn := ⟨_, rfl⟩
        subst hw'
        refine wpAny_all (rs := [19]) (by kernel_rfl) (by simp) (fun i hi => ?_)
        obtain rfl := List.mem_singleton.1 hi
        refine wpOp_step rfl (fun K hK => ?_)
        have HK := Lib.hid hK
        clear hK hi
        have q1 := hb12.cell
        have q2 := hb12.frozen
        go_simp
        refine HK.out _ _ ?_
        clear HK K q1 q2
        have hFS : Fr (fun j => j = p12) w' (w'.setCell ⟨p12, 0, none⟩ (.slice A6 (ofI (zs ++ ts)).length m6)) := fr_setCell _ _ _ (fun _ => rfl)
        replace hS3 := hS3.off_box2 hb12 hFS
        replace hS4 := hS4.off_box2 hb12 hFS
        replace hS5 := hS5.off_box2 hb12 hFS
        replace hS6 := hS6.off_box2 hb12 hFS
        replace hF := hF.trans hFS (fun j hj e => by omega)
        replace hb9 := hb9.fr hFS (fun e => n9_12 e)
        replace hb10 := hb10.fr hFS (fun e => n10_12 e)
        replace hb11 := hb11.fr hFS (fun e => n11_12 e)
        replace hb12 := hb12.set (.slice A6 (ofI (zs ++ ts)).length m6)
        obtain ⟨wn, hwn⟩ : ∃ wn, w'.setCell ⟨p12, 0, none⟩ (.slice A6 (ofI (zs ++ ts)).length m6) = wn := ⟨_, rfl⟩
        rw [hwn] at hS3 hS4 hS5 hS6 hF hb9 hb10 hb11 hb12
        (try simp only [List.setIfInBounds_toArray, List.set_cons_zero, List.set_cons_succ])
        rw [hwn]
        clear hwn hFS w'
        obtain ⟨w', hw'⟩ : ∃ w', w' = wn := ⟨_, rfl⟩
        subst hw'
        refine ⟨by kernel_rfl, ?_⟩
        go_upto_region 5 with (fail)
        have hFW : Fr0 W w' := hFR.trans0 hF
        have HS1' := Lib.hid (HS1.out.fr0 hF)
        have HS2' := Lib.hid (HS2.out.fr0 hF)
        have r1 := hF.cell k1 (fun x => x)
        have r2 := hF.cell k2 (fun x => x)
        have q9 := hb9.cell
        have q10 := hb10.cell
        have q11 := hb11.cell
        have q12 := hb12.cell
        have P1 := Lib.hid (fun w'' (f : Fr0 w' w'') => HPK.out w'' (hFW.trans0 f) true true true)
        have P2 := Lib.hid (fun w'' (f : Fr0 w' w'') => HPK.out w'' (hFW.trans0 f) false true false)
        have P3 := Lib.hid (fun w'' (f : Fr0 w' w'') => HPK.out w'' (hFW.trans0 f) true false false)
        rw [E1.out] at P1
        rw [E2.out] at P2
        rw [E3.out] at P3
        have L3 := hS3.small
        have L4 := hS4.small
        have L5 := hS5.small
        have KO := Lib.hid (fun w'' (f : Fr0 w' w'') => SList_is (hS3.fr0 f))
        have KN := Lib.hid (fun w'' (f : Fr0 w' w'') => SList_is (hS4.fr0 f))
        have KM := Lib.hid (fun w'' (f : Fr0 w' w'') => SList_is (hS5.fr0 f))
        have KW := Lib.hid (fun w'' (f : Fr0 w' w'') => SList_is (hS6.fr0 f))
        clear hS3 hS4 hS5 hS6 hb9 hb10 hb11 hb12 E1 E2 E3 HPK HWI HPX HPY
        generalize ofI (zs ++ ts) = la at P1 L3 KO KW q9 q12
        generalize zs.filter (fun x => decide (x ∈ ts)) = lb at P2 L4 KN q10
        generalize zs.filter (fun x => !decide (x ∈ ts)) = lc at P3 L5 KM q11
        have KS := Lib.hid (show ∀ w'', Fr0 w' w'' → (Fr0 w' w'' ∧ w''.cell? ⟨p9, 0, none⟩ = some (.slice A3 la.length m3) ∧ w''.cell? ⟨p10, 0, none⟩ = some (.slice A4 lb.length m4) ∧ w''.cell? ⟨p11, 0, none⟩ = some (.slice A5 lc.length m5) ∧ w''.cell? ⟨p12, 0, none⟩ = some (.slice A6 la.length m6)) from fun w'' f => ⟨f, f.cell q9 (fun x => x), f.cell q10 (fun x => x), f.cell q11 (fun x => x), f.cell q12 (fun x => x)⟩)
        go_region_held_law (fun w'' => Fr0 w' w'' ∧ w''.cell? ⟨p9, 0, none⟩ = some (.slice A3 la.length m3) ∧ w''.cell? ⟨p10, 0, none⟩ = some (.slice A4 lb.length m4) ∧ w''.cell? ⟨p11, 0, none⟩ = some (.slice A5 lc.length m5) ∧ w''.cell? ⟨p12, 0, none⟩ = some (.slice A6 la.length m6))
          ((refine KS.out _ ?_; first | exact fr_drew _ _ | assumption | exact And.left (by assumption)))
          (first
            | (go_at_call 21; have hmk := hG29; refine (KO.out _ (And.left (by assumption))).mono ?_; rintro e w30 ⟨v30, rfl, hf30, ho30⟩; obtain ⟨A30, c30, rfl⟩ := own_form ho30; have hG30 : Fr0 w' w30 := Fr.trans0 (And.left (by assumption)) hf30)
            | (go_at_call 21; have hmk := hG28; refine (KW.out _ (And.left (by assumption))).mono ?_; rintro e w29 ⟨v29, rfl, hf29, ho29⟩; obtain ⟨A29, c29, rfl⟩ := own_form ho29; have hG29 : Fr0 w' w29 := Fr.trans0 (And.left (by assumption)) hf29)
            | (go_at_call 21; have hmk := hG25; refine (KM.out _ (And.left (by assumption))).mono ?_; rintro e w26 ⟨v26, rfl, hf26, ho26⟩; obtain ⟨A26, c26, rfl⟩ := own_form ho26; have hG26 : Fr0 w' w26 := Fr.trans0 (And.left (by assumption)) hf26)
            | (go_at_call 21; have hmk := hG22; refine (KN.out _ (And.left (by assumption))).mono ?_; rintro e w23 ⟨v23, rfl, hf23, ho23⟩; obtain ⟨A23, c23, rfl⟩ := own_form ho23; have hG23 : Fr0 w' w23 := Fr.trans0 (And.left (by assumption)) hf23)
            | (go_at_call 21; refine (KO.out _ (And.left (by assumption))).mono ?_; rintro e w20 ⟨v20, rfl, hf20, ho20⟩; obtain ⟨A20, c20, rfl⟩ := own_form ho20; have hG20 : Fr0 w' w20 := Fr.trans0 (And.left (by assumption)) hf20)
            | (go_at_call 22; have hmk := hG26; refine (P3.out _ (And.left (by assumption))).mono ?_; rintro e w27 ⟨v27, rfl, hf27, ho27⟩; obtain ⟨A27, c27, rfl⟩ := own_form ho27; have hG27 : Fr0 w' w27 := Fr.trans0 (And.left (by assumption)) hf27)
            | (go_at_call 22; have hmk := hG23; refine (P2.out _ (And.left (by assumption))).mono ?_; rintro e w24 ⟨v24, rfl, hf24, ho24⟩; obtain ⟨A24, c24, rfl⟩ := own_form ho24; have hG24 : Fr0 w' w24 := Fr.trans0 (And.left (by assumption)) hf24)
            | (go_at_call 22; refine (P1.out _ (And.left (by assumption))).mono ?_; rintro e w21 ⟨v21, rfl, hf21, ho21⟩; obtain ⟨A21, c21, rfl⟩ := own_form ho21; have hG21 : Fr0 w' w21 := Fr.trans0 (And.left (by assumption)) hf21)
            | (go_at_call 20; refine (SameI_is (own_fr0 ho29 hf30) ho30 (by omega)).mono ?_; rintro e w31 ⟨_, rfl, rfl, hf31⟩; have hG31 : Fr0 w' w31 := Fr.trans0 (And.left (by assumption)) hf31)
            | (go_at_call 20; refine (SameI_is (own_fr0 ho26 hf27) ho27 (by omega)).mono ?_; rintro e w28 ⟨_, rfl, rfl, hf28⟩; have hG28 : Fr0 w' w28 := Fr.trans0 (And.left (by assumption)) hf28)
            | (go_at_call 20; refine (SameI_is (own_fr0 ho23 hf24) ho24 (by omega)).mono ?_; rintro e w25 ⟨_, rfl, rfl, hf25⟩; have hG25 : Fr0 w' w25 := Fr.trans0 (And.left (by assumption)) hf25)
            | (go_at_call 20; refine (SameI_is (own_fr0 ho20 hf21) ho21 (by omega)).mono ?_; rintro e w22 ⟨_, rfl, rfl, hf22⟩; have hG22 : Fr0 w' w22 := Fr.trans0 (And.left (by assumption)) hf22))
        go_upto_region 7 with (fail)
        have hFX := hFW.trans0 hG31
        have T1 := Lib.hid (fun w'' (f : Fr0 w31 w'') => SList_is ((HS1'.out.fr0 hG31).fr0 f))
        have T2 := Lib.hid (fun w'' (f : Fr0 w31 w'') => SList_is ((HS2'.out.fr0 hG31).fr0 f))
        have T3 := Lib.hid (fun w'' (f : Fr0 w31 w'') => SHas_is ((HS1'.out.fr0 hG31).fr0 f) x)
        have T4 := Lib.hid (fun w'' (f : Fr0 w31 w'') => HOX.out w'' (hFX.trans0 f))
        have T5 := Lib.hid (fun w'' (f : Fr0 w31 w'') => HOY.out w'' (hFX.trans0 f))
        have T6 := Lib.hid (fun w'' (f : Fr0 w31 w'') => Has5_is (c := c) (HX.out.fr0 (hFX.trans0 f)) x)
        rw [E4.out] at T3
        generalize decide (x ∈ xs) = bx at T3 T6
        have y1 := hG31.cell r1 (fun x => x)
        have y2 := hG31.cell r2 (fun x => x)
        clear E4 HS1' HS2' HOX HOY HX HY KS KO KN KM KW P1 P2 P3 ho20 ho21 ho23 ho24 ho26 ho27 ho29 ho30
        go_wp2_with (first
          | (go_at_call 21; refine (T2.out _ hH42).mono ?_; rintro e w43 ⟨v43, rfl, hf43, ho43⟩; obtain ⟨A43, c43, rfl⟩ := own_form ho43; have hH43 : Fr0 w31 w43 := Fr.trans0 hH42 hf43)
          | (go_at_call 21; refine (T1.out _ (Fr.refl _ _)).mono ?_; rintro e w40 ⟨v40, rfl, hf40, ho40⟩; obtain ⟨A40, c40, rfl⟩ := own_form ho40; have hH40 : Fr0 w31 w40 := hf40)
          | (go_at_call 23; refine (T4.out _ hH46).mono ?_; rintro e w47 ⟨v47, rfl, hf47, ho47⟩; obtain ⟨A47, c47, rfl⟩ := own_form ho47; have hH47 : Fr0 w31 w47 := Fr.trans0 hH46 hf47; have z47 := hH47.cell y1 (fun x => x))
          | (go_at_call 23; refine (T5.out _ hH43).mono ?_; rintro e w44 ⟨v44, rfl, hf44, ho44⟩; obtain ⟨A44, c44, rfl⟩ := own_form ho44; have hH44 : Fr0 w31 w44 := Fr.trans0 hH43 hf44)
          | (go_at_call 23; refine (T4.out _ hH40).mono ?_; rintro e w41 ⟨v41, rfl, hf41, ho41⟩; obtain ⟨A41, c41, rfl⟩ := own_form ho41; have hH41 : Fr0 w31 w41 := Fr.trans0 hH40 hf41)
          | (go_at_call 20; refine (SameI_is (own_fr0 ho43 hf44) ho44 (by omega)).mono ?_; rintro e w45 ⟨_, rfl, rfl, hf45⟩; have hH45 : Fr0 w31 w45 := Fr.trans0 hH44 hf45; have z45 := hH45.cell y1 (fun x => x))
          | (go_at_call 20; refine (SameI_is (own_fr0 ho40 hf41) ho41 (by omega)).mono ?_; rintro e w42 ⟨_, rfl, rfl, hf42⟩; have hH42 : Fr0 w31 w42 := Fr.trans0 hH41 hf42; have z42 := hH42.cell y2 (fun x => x))
          | (go_at_call 24; refine (SLen_is _ _ _ _).mono ?_; rintro e w46 ⟨rfl, hf46⟩; have hH46 : Fr0 w31 w46 := Fr.trans0 hH45 hf46)
          | (go_at_call 25; refine (T3.out _ hH47).mono ?_; rintro e w48 ⟨_, rfl, rfl, hf48⟩; have hH48 : Fr0 w31 w48 := Fr.trans0 hH47 hf48)
          | (go_at_call 26; refine (T6.out _ hH48).mono ?_; rintro e w49 ⟨rfl, rfl⟩)
          | (go_at_call 14; refine (works05_is _).mono ?_; rintro e w50 ⟨_, rfl, rfl, hf50⟩; have hH50 : Fr0 w31 w50 := Fr.trans0 hH48 hf50))
        go_ret
        exact ⟨_, rfl, rfl, hFX.trans0 hH50⟩
end Go.Proofs.Ytinjioheimpoeaa
