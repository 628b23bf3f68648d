/- Of a graph that is not there nothing is led to: the law's walk. -/
import Derived.Test.YtdihpobegoihkaaDoorNextNil
import Derived.Test.YtdihpobegoihkaaDoorWorks21
import Derived.Test.YtdihpobegoihkaaDoorLawKit
namespace Go.Proofs.YtdihpobegoihkaaDoor
set_option linter.all false
open Go.RowKit Go.Shelf
attribute [local go_sem] Oper.semAt_some run_eql_func
set_option maxRecDepth 100000

section
variable {P : Program} {fn : Func} {R : Ending → World → Prop} {tmps : Array Value} {W : World} {D : Nat}
theorem leaveC (hk : W.heap[D]? = some (.deferred (some []))) (h : ∀ W', Grow D W W' → ∃ v, (results fn tmps).run P W' = .ok v W' ∧ R (.returned v) W') :
    bodyPostM Fence.wide 0 P fn R .ret { tmps, defers := [{ target := .collected D, args := #[] }] } W :=
  ⟨by simp, .inl ⟨_, _, rfl, run_takeDeferred hk, h _ (shut_mark hk)⟩⟩
theorem leaveC0 {v : Value} (h : (results fn tmps).run P W = .ok v W) (hR : R (.returned v) W) : bodyPostM Fence.wide 0 P fn R .ret { tmps, defers := [] } W := ⟨v, h, hR⟩
end
set_option maxHeartbeats 8000000 in
theorem ReachNone_is {W : World} {v m : Int} {A : Option Addr} {c : Nat} {xs : List Int} (hT : Tab W) (hx : IntsAt W A xs) (hp : Plain A xs.length c) :
    Calls Tryd.prog 11 #[.int .i64 v, .slice A xs.length c, .int .i64 m] W (Rets (SamePost true W)) := by
  have hf0 : Fr0 W (W.alloc (.cells #[.bool false] 4)) := fr_alloc _ _ _
  obtain ⟨w0, hw0⟩ : ∃ w0, W.alloc (.cells #[.bool false] 4) = w0 := ⟨_, rfl⟩
  rw [hw0] at hf0
  have hb0 : Box w0 W.heap.size 4 (.bool false) := hw0 ▸ Box.new _ _ _
  have HT := Lib.hid (hT.fr hf0 (fun x => x))
  have HX := Lib.hid (hx.fr0 hf0)
  have hs0 : w0.heap.size = W.heap.size + 1 := by rw [← hw0]; simp
  have HW := Lib.hid (works21_is HT.out)
  clear hT hx hp
  refine (callsIn_wide (n := 0)).1 (callsIn_of_wp_marks Tryd.func11 rfl trivial ?_)
  simp only [Tryd.ntmps11, List.size_toArray, List.length_cons, List.length_nil, Nat.reduceAdd, Nat.reduceSub, Array.replicate_succ, Array.replicate_zero, List.push_toArray, List.append_toArray, List.nil_append, List.cons_append]
  by_cases h60 : xs.length > 60
  · have h60' : (xs.length : Int) > 60 := by omega
    gi_wp2_with (gi_at_call 30; refine (callsIn_wide.2 HW.out).mono ?_; rintro e w1 ⟨_, rfl, rfl, hf1⟩; have hb1 := hb0.fr0 hf1; have hc1 := hb1.cell; have hz1 := hb1.frozen)
    have hbS := hb1.set (.bool true)
    have hcS := hbS.cell
    refine leaveC0 (v := .bool true) ?_ ⟨_, rfl, rfl, Fr.setCell (hf0.trans0 hf1) _ _ (fun h => absurd h (Nat.lt_irrefl _))⟩
    simp only [results, show Tryd.f11.results = #[.cell 6 4] from rfl]
    go_simp
  · have h60' : ¬ (xs.length : Int) > 60 := by omega
    gi_wp2_with (first
      | (gi_at_call 33; (try rw [hw0]); refine (callsIn_wide.2 (set21_is (c := c) HT.out HX.out)).mono ?_; rintro e w1 ⟨_, rfl, g1, a1, rfl, _, _, hf1, hI1⟩)
      | (gi_at_call 38; refine (callsIn_wide.2 (OutN_is (p := none) (pt := none) (.inl ⟨rfl, rfl, rfl⟩) _ _ _)).mono ?_; rintro e w2 ⟨rfl, hw2⟩))
    have hf2 : Fr0 w1 w2 := hw2 ▸ (((fr_alloc _ _ _).alloc _).alloc _).alloc _
    have hF2 : Fr0 w0 w2 := hf1.trans0 hf2
    have hs2 : w2.heap.size = w1.heap.size + 4 := by rw [hw2]; simp
    have hq0 : Box w2 w1.heap.size 32 (.pointer none) := hw2 ▸ (Box.new w1 _ _).fr0 (((fr_alloc _ _ _).alloc _).alloc _)
    have hq1 : Box w2 (w1.heap.size + 1) 3 (.int .i64 v) := by
      have := Box.new (w1.alloc (.cells #[.pointer none] 32)) 3 (.int .i64 v)
      rw [World.size_alloc] at this
      exact hw2 ▸ this.fr0 ((fr_alloc _ _ _).alloc _)
    have hq3 : Box w2 (w1.heap.size + 3) 3 (.int .i64 m) := by
      have := Box.new (((w1.alloc (.cells #[.pointer none] 32)).alloc (.cells #[.int .i64 v] 3)).alloc (.cells #[.pointer (some ⟨g1, 0, none⟩)] 34)) 3 (.int .i64 m)
      rw [World.size_alloc, World.size_alloc, World.size_alloc] at this
      exact hw2 ▸ this
    rw [← hw2]
    clear hw2
    have hs1 := hf1.size
    refine range_lawF (gf := 84) (lb := #[.pointer (some ⟨w1.heap.size, 0, none⟩), .pointer (some ⟨w1.heap.size + 1, 0, none⟩), .pointer (some ⟨w1.heap.size + 3, 0, none⟩), .pointer (some ⟨w1.heap.size + 2, 0, none⟩)]) rfl (enters_of Tryd.func84 (by kernel_rfl) rfl)
      (Next1_none w1.heap.size none 0 [] v m (by omega)) (fun _ => rfl)
      (fun _ W' => Fr0 w0 W' ∧ nextKN w1.heap.size none 0 [] v m W')
      (fun _ _ _ => False) (fun _ _ => False) (fun pre W' h => h.2) ?stab (fun _ _ _ _ hf _ => hf) ⟨hF2, hq0, hq1, hq3, .inl ⟨rfl, rfl, rfl⟩⟩ (fun _ _ _ _ h => h.elim) (fun _ _ _ _ _ _ h => h) ?round ?done ?stop
    case stab => exact fun pre W1 W2 h hG => ⟨Fr.andGrow h.1 hG (by omega), h.2.1.grow hG, h.2.2.1.grow hG, h.2.2.2.1.grow hG, .inl ⟨rfl, rfl, rfl⟩⟩
    case stop => intro D c pre W hD _ hf; exact hf.elim
    case round =>
      intro y pre x Wx hy hI hpre
      have := hpre.length_le
      simp at this
    case done =>
      intro D Wd hD hI hk2
      have hFd := hI.1
      have hGP : ∀ w', GP w' none 0 [] := fun w' => .inl ⟨rfl, rfl, rfl⟩
      have hIR : ∀ w', IsR w' none none none := fun w' => .inl ⟨rfl, rfl, rfl⟩
      have HE0 := Lib.hid (fun (q : Nat → Bool) => (show (elems 0 q).length = 0 from rfl))
      gi_wp2_with (first
        | (gi_at_call 30; refine (callsIn_wide.2 (works21_is (HT.out.fr hF9 (fun x => x)))).mono ?_; rintro e w10 ⟨_, rfl, rfl, hf10⟩; have hF10 := hF9.trans0 hf10; have hb10 := hb0.fr0 hF10; have hc10 := hb10.cell; have hz10 := hb10.frozen)
        | (gi_at_call 22; refine (callsIn_wide.2 (Room_c g9 (0 : Nat) w9 hI9.c0)).mono ?_; rintro e w' ⟨rfl, rfl⟩)
        | (gi_at_call 34; refine (callsIn_wide.2 (ToG_is (n := 0) (J := []) (hIR _) (hGP _) (hI7.fr0 hf8) hI8 m)).mono ?_; rintro e w9 ⟨_, rfl, g9, a9, rfl, _, _, hf9, hI9⟩; have hF9 := hF8.trans0 hf9)
        | (gi_at_call 33; refine (callsIn_wide.2 (set21_is (c := c) (HT.out.fr hF7 (fun x => x)) (HX.out.fr0 hF7))).mono ?_; rintro e w8 ⟨_, rfl, g8, a8, rfl, _, _, hf8, hI8⟩; have hF8 := hF7.trans0 hf8)
        | (gi_at_call 33; refine (callsIn_wide.2 (set21_is (c := c) (HT.out.fr hF6 (fun x => x)) (HX.out.fr0 hF6))).mono ?_; rintro e w7 ⟨_, rfl, g7, a7, rfl, _, _, hf7, hI7⟩; have hF7 := hF6.trans0 hf7)
        | (gi_at_call 44; refine (callsIn_wide.2 (Count_is hI5)).mono ?_; rintro e w6 ⟨_, rfl, rfl, hf6⟩; rw [HE0.out]; have hF6 := hF5.trans0 hf6)
        | (gi_at_call 32; refine (callsIn_wide.2 (FromG_is (n := 0) (J := []) (hIR _) (hGP _) (hI3.fr0 hf4) hI4 m)).mono ?_; rintro e w5 ⟨_, rfl, g5, a5, rfl, _, _, hf5, hI5⟩; have hF5 := hF4.trans0 hf5)
        | (gi_at_call 33; refine (callsIn_wide.2 (set21_is (c := c) (HT.out.fr hF3 (fun x => x)) (HX.out.fr0 hF3))).mono ?_; rintro e w4 ⟨_, rfl, g4, a4, rfl, _, _, hf4, hI4⟩; have hF4 := hF3.trans0 hf4)
        | (gi_at_call 33; refine (callsIn_wide.2 (set21_is (c := c) (HT.out.fr hFd (fun x => x)) (HX.out.fr0 hFd))).mono ?_; rintro e w3 ⟨_, rfl, g3, a3, rfl, _, _, hf3, hI3⟩; have hF3 := hFd.trans0 hf3)
        | (gi_at_call 37; refine (callsIn_wide.2 (LenR_is (n := 0) (J := []) (hIR _) (hGP _))).mono ?_; rintro e w' ⟨rfl, rfl⟩))
      have hbS := hb10.set (.bool true)
      have hk3 : (w10.setCell ⟨W.heap.size, 0, none⟩ (.bool true)).heap[D]? = some (.deferred (some [])) := heap_setCell_nd _ _ _ _ _ (hf10.nd _ _ (hf9.nd _ _ (hf8.nd _ _ (hf7.nd _ _ (hf6.nd _ _ (hf5.nd _ _ (hf4.nd _ _ (hf3.nd _ _ hk2 rfl) rfl) rfl) rfl) rfl) rfl) rfl) rfl) rfl
      have hFS : Fr0 W (w10.setCell ⟨W.heap.size, 0, none⟩ (.bool true)) := Fr.setCell (hf0.trans0 hF10) _ _ (fun h => absurd h (Nat.lt_irrefl _))
      refine leaveC hk3 (fun W' hG => ⟨.bool true, ?_, _, rfl, rfl, Fr.andGrow hFS hG (by omega)⟩)
      have hcS := (hbS.grow hG).cell
      simp only [results, show Tryd.f11.results = #[.cell 6 4] from rfl]
      go_simp
end Go.Proofs.YtdihpobegoihkaaDoor
