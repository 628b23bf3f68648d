/- Of a closure that is not there nothing leads anywhere: the law's walk. -/
import Derived.Test.YtdihpobegoihkaaDoorLawKit
namespace Go.Proofs.YtdihpobegoihkaaDoor
set_option linter.all false
open Go.RowKit
set_option maxRecDepth 100000

theorem existsI_none (k : Int) : existsI 0 [] k = false := by
  unfold existsI
  cases ruleI k <;> rfl
theorem leadsI_none (M : Nat → Nat → Bool) (a b : Int) : leadsI 0 M a b = false := by
  have : hasI 0 a = false := by simp [hasI]
  simp [leadsI, this]
set_option maxHeartbeats 4000000 in
theorem ClosureNone_is {W : World} {a b k : Int} (hT : Tab W) : Calls Tryd.prog 6 #[.int .i64 a, .int .i64 b, .int .i64 k] W (Rets (SamePost true W)) := by
  have HT := Lib.hid hT
  clear hT
  go_enter Tryd.func6, Tryd.ntmps6
  go_wp2_with (first
    | (go_at_call 16; refine (CloNew_is (p := none) (n := 0) (J := []) (.inl ⟨rfl, rfl, rfl⟩) (-1) HT.out).mono ?_; rintro e w1 ⟨v1, rfl, cg, L, rfl, hf1, hC⟩; have HC := Lib.hid hC; clear hC)
    | (go_at_call 23; with_reducible refine (Leads_nil a b w1).mono ?_; rintro e w' ⟨rfl, rfl⟩)
    | (go_at_call 18; refine (RowC_is (HC.out.fr0 hf2) a).mono ?_; rintro e w3 ⟨v3, rfl, g3, a3, rfl, _, _, hf3, hI3⟩)
    | (go_at_call 22; with_reducible refine (Room_c g3 0 w3 (by simpa using hI3.c0)).mono ?_; rintro e w' ⟨rfl, rfl⟩)
    | (go_at_call 22; with_reducible refine (Room_c g2 0 w2 (by simpa using hI2.c0)).mono ?_; rintro e w' ⟨rfl, rfl⟩)
    | (go_at_call 25; with_reducible refine (Cyclic_nil w2).mono ?_; rintro e w' ⟨rfl, rfl⟩)
    | (go_at_call 23; refine (Leads_is (HC.out.fr0 hf2) a b).mono ?_; rintro e w' ⟨rfl, rfl⟩; rw [leadsI_none])
    | (go_at_call 18; refine (RowC_nil a HC.out.tab).mono ?_; rintro e w2 ⟨v2, rfl, g2, a2, rfl, _, _, hf2, hI2⟩)
    | (go_at_call 25; refine (Cyclic_is (HC.out.fr0 (hf2.trans0 hf3))).mono ?_; rintro e w4 ⟨v4, rfl, hf4, ho4⟩; obtain ⟨A4, c4, rfl⟩ := own_form ho4; rw [show (elems 0 (fun v => warsh (fun i => rowM 0 [] (-1) i) 0 v v)).length = 0 from rfl])
    | (go_at_call 29; refine (Exists_is (p := none) (n := 0) (J := []) (.inl ⟨rfl, rfl, rfl⟩) (HC.out.tab.fr ((hf2.trans0 hf3).trans0 hf4) (fun x => x)) (by decide) k).mono ?_; rintro e w5 ⟨_, rfl, rfl, hf5⟩; rw [existsI_none])
    | (go_at_call 14; refine (works36_is (HC.out.tab.fr (((hf2.trans0 hf3).trans0 hf4).trans0 hf5) (fun x => x))).mono ?_; rintro e w6 ⟨_, rfl, rfl, hf6⟩))
  go_ret
  exact ⟨_, rfl, rfl, hf1.trans0 ((((hf2.trans0 hf3).trans0 hf4).trans0 hf5).trans0 hf6)⟩
end Go.Proofs.YtdihpobegoihkaaDoor
