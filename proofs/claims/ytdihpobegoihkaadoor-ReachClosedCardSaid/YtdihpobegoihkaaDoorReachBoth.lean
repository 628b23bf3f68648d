/- A vertex is led to from another one just if that one is where one is led from to it: the law's walk. -/
import Derived.Test.YtdihpobegoihkaaDoorTurnPure
import Derived.Test.YtdihpobegoihkaaDoorWorks21
import Derived.Test.YtdihpobegoihkaaDoorLawKit
namespace Go.Proofs.YtdihpobegoihkaaDoor
set_option linter.all false
open Go.RowKit
set_option maxRecDepth 100000

theorem few21 {n : Int} {l : List ArcI} {most arcs : Int} (h : fewI n l most arcs = true) : 0 ≤ n ∧ n ≤ most ∧ (l.length : Int) ≤ arcs ∧ l.any (badI n) = false := by
  simp only [fewI, Bool.and_eq_true, decide_eq_true_eq, Bool.not_eq_true'] at h
  exact ⟨h.1.1.1, h.1.1.2, h.1.2, h.2⟩
theorem cells1 {W : World} {a : Int} : IntsAt (W.alloc (.cells #[.int .i64 a] 3)) (some ⟨W.heap.size, 0, none⟩) [a] := ints_lit (l := [a]) (World.alloc_heap_new _ _) (by simp)
theorem hasW {W : World} {g a n : Nat} {p : Nat → Bool} (h : IsBits W g a n p) (v : Int) : Calls Tryd.prog 43 #[.pointer (some ⟨g, 0, none⟩), .int .i64 v] W fun e w' => e = .returned (.bool (inW p v)) ∧ W = w' := Has_is h v
set_option maxHeartbeats 8000000 in
theorem ReachBoth_is {W : World} {n a b m : Int} {A B : Option Addr} {c d : Nat} {l : List ArcI} {xs : List Int} (hT : Tab W) (hl : ArcsAt W A l) (hP : Plain A l.length c) (hx : IntsAt W B xs) (hp : Plain B xs.length d) :
    Calls Tryd.prog 10 #[.int .i64 n, .slice A l.length c, .int .i64 a, .int .i64 b, .slice B xs.length d, .int .i64 m] W (Rets (SamePost true W)) := by
  have HF := Lib.hid (Few_is (c := c) hl n 30 200)
  have hWK := works21_is hT
  cases hf : fewI n l 30 200 with
  | false =>
    rw [hf] at HF
    have HW := Lib.hid hWK
    clear hl hT hP hf hx hp hWK
    go_enter Tryd.func10, Tryd.ntmps10
    go_wp2_with (first
      | (go_at_call 13; refine (HF.out).mono ?_; rintro e w' ⟨rfl, rfl⟩)
      | (go_at_call 30; refine (HW.out).mono ?_; rintro e w' ⟨_, rfl, rfl, hf1⟩))
    go_ret
    exact ⟨_, rfl, rfl, hf1⟩
  | true =>
    rw [hf] at HF
    by_cases h60 : xs.length > 60
    · have h60' : (xs.length : Int) > 60 := by omega
      have HW := Lib.hid hWK
      clear hl hT hP hf hx hp hWK
      go_enter Tryd.func10, Tryd.ntmps10
      go_wp2_with (first
        | (go_at_call 13; refine (HF.out).mono ?_; rintro e w' ⟨rfl, rfl⟩)
        | (go_at_call 30; refine (HW.out).mono ?_; rintro e w' ⟨_, rfl, rfl, hf1⟩))
      go_ret
      exact ⟨_, rfl, rfl, hf1⟩
    · have h60' : ¬ (xs.length : Int) > 60 := by omega
      clear hWK
      obtain ⟨h0, h1, h2, h3⟩ := few21 hf
      obtain ⟨N, rfl⟩ : ∃ N : Nat, n = (N : Int) := ⟨n.toNat, by omega⟩
      have hN : N ≤ 1024 := by omega
      have hN1 : N ≤ 100 := by omega
      have HT := Lib.hid hT
      have HX := Lib.hid hx
      have HB := Lib.hid (build21_is (c := c) hl (by omega) hN h3)
      clear hl hT hP hf hx hp h3
      go_enter Tryd.func10, Tryd.ntmps10
      go_wp2_with (first
        | (go_at_call 13; refine (HF.out).mono ?_; rintro e w' ⟨rfl, rfl⟩)
        | (go_at_call 31; refine (HB.out).mono ?_; rintro e w1 ⟨v1, rfl, r, p, pt, J, J', rfl, hFW, hR, hG, hGt, hB1, hB2⟩))
      have hF1 := Fr.refl (fun _ => False) w1
      replace HT := Lib.hid (HT.out.fr hFW (fun x => x))
      replace HX := Lib.hid (HX.out.fr0 hFW)
      have HBO := Lib.hid (fun pw => both_is (m := m) (a := a) (b := b) (pw := pw) hN1 hB1 hB2)
      have HR := Lib.hid hR
      have HG := Lib.hid hG
      have HGt := Lib.hid hGt
      clear hR hG hGt hB1 hB2 HB HF
      go_wp2_with (first
        | (go_at_call 30; refine HWK.out.mono ?_; rintro e w8 ⟨_, rfl, rfl, hf8⟩)
        | (go_at_call 43; with_reducible refine HH4.out.mono ?_; rintro e w' ⟨rfl, rfl⟩)
        | (go_at_call 43; with_reducible refine HH7.out.mono ?_; rintro e w' ⟨rfl, rfl⟩)
        | (go_at_call 34; refine (ToG_is (n := N) (J := J') (HR.out.fr0 hF6) (HGt.out.fr0 hF6) (hI5.fr0 hf6) hI6 m).mono ?_; rintro e w7 ⟨_, rfl, g7, a7, rfl, _, _, hf7, hI7⟩; have hF7 := hF6.trans0 hf7; have hx4 := hasW (hI4.fr0 (((hf45.trans0 hf5).trans0 hf6).trans0 hf7)) b; have hx7 := hasW hI7 a; rw [HBO.out] at hx4; have HH4 := Lib.hid hx4; have HH7 := Lib.hid hx7; have HWK := Lib.hid (works21_is (HT.out.fr hF7 (fun x => x))); clear hx4 hx7)
        | (go_at_call 33; refine (set21_is (c := d) (HT.out.fr hF5 (fun x => x)) (HX.out.fr0 hF5)).mono ?_; rintro e w6 ⟨_, rfl, g6, a6, rfl, _, _, hf6, hI6⟩; have hF6 := hF5.trans0 hf6)
        | (go_at_call 33; refine (set21_is (c := 1) (xs := [b]) (HT.out.fr (hF4.trans0 hf45) (fun x => x)) cells1).mono ?_; rintro e w5 ⟨_, rfl, g5, a5, rfl, _, _, hf5, hI5⟩; have hF5 := (hF4.trans0 hf45).trans0 hf5)
        | (go_at_call 32; refine (FromG_is (n := N) (J := J) (HR.out.fr0 hF3) (HG.out.fr0 hF3) (hI2.fr0 hf3) hI3 m).mono ?_; rintro e w4 ⟨_, rfl, g4, a4, rfl, _, _, hf4, hI4⟩; have hF4 := hF3.trans0 hf4; have hf45 : Fr0 w4 (w4.alloc (.cells #[.int .i64 b] 3)) := fr_alloc _ _ _)
        | (go_at_call 33; refine (set21_is (c := d) (HT.out.fr hF2 (fun x => x)) (HX.out.fr0 hF2)).mono ?_; rintro e w3 ⟨_, rfl, g3, a3, rfl, _, _, hf3, hI3⟩; have hF3 := hF2.trans0 hf3)
        | (go_at_call 33; refine (set21_is (c := 1) (xs := [a]) (HT.out.fr (hF1.trans0 (fr_alloc _ w1 (.cells #[.int .i64 a] 3))) (fun x => x)) cells1).mono ?_; rintro e w2 ⟨_, rfl, g2, a2, rfl, _, _, hf2, hI2⟩; have hF2 := (hF1.trans0 (fr_alloc _ w1 (.cells #[.int .i64 a] 3))).trans0 hf2))
      go_ret
      exact ⟨_, rfl, rfl, hFW.trans0 (hF7.trans0 hf8)⟩

end Go.Proofs.YtdihpobegoihkaaDoor
