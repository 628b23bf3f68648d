/- CycleLabels walked. -/
import Derived.Test.YtjijoghbcbdohaaWorks26
namespace Go.Proofs.Ytjijoghbcbdohaa
set_option linter.all false
open Go.RowKit
set_option maxRecDepth 100000

set_option maxHeartbeats 4000000 in
theorem CycleLabels_is {W : World} {kind : Int} (hw : (Lit.int .i64 kind).wf = true) {A : Option Addr} {c : Nat} {xs : List Int} (hx : IntsAt W A xs) (hp : Plain A xs.length c) (hcp : xs.length ≤ c) :
    Calls Try.prog 6 #[.int .i64 kind, .slice A xs.length c] W (Rets (SamePost true W)) := by
  by_cases hbig : (8 : Int) < (xs.length : Int)
  · go_enter Try.func6, Try.ntmps6
    go_wp2_with (go_at_call 8; refine (works26_is _).mono ?_; rintro e w' ⟨_, rfl, rfl, hf⟩)
    go_ret
    exact ⟨_, rfl, rfl, hf⟩
  · have hlab := labels_same kind (xs := xs) (by omega)
    cases hd : labD kind xs with
    | none =>
      have HA := Lib.hid (Labels_no (cp := c) hw hx (by omega) (hlab.trans hd))
      have HB := Lib.hid (fun (w : World) (f : Fr0 W w) => Labels26_no (c := c) (hx.fr0 f) (by omega) hd)
      have HM : Hid (∀ w, Calls Try.prog 9 #[.slice none 0 0, .slice none 0 0] w (Rets (SamePost true w))) := Lib.hid (fun w => Same_is (c := 0) (d := 0) (xs := []) (ys := []) ⟨by simp, .inl rfl⟩ ⟨by simp, .inl rfl⟩)
      clear hx hp hlab hd
      unfold NoPost at HA
      go_enter Try.func6, Try.ntmps6
      go_wp2_with (first
        | (go_at_call 8; refine (works26_is _).mono ?_; rintro e w' ⟨_, rfl, rfl, hf⟩)
        | (go_at_call 9; refine (HM.out _).mono ?_; rintro e w3 ⟨_, rfl, rfl, hf3⟩)
        | (go_at_call 19; refine (HB.out _ hf1).mono ?_; rintro e w2 ⟨_, rfl, rfl, hf2⟩)
        | (go_at_call 18; refine (HA.out).mono ?_; rintro e w1 ⟨_, rfl, rfl, hf1⟩))
      go_ret
      exact ⟨_, rfl, rfl, (hf1.trans0 hf2).trans0 (hf3.trans0 hf)⟩
    | some l =>
      have HA := Lib.hid (Labels_yes (cp := c) hw hx hp hcp (by omega) (hlab.trans hd))
      have HB := Lib.hid (fun (w : World) (f : Fr0 W w) => Labels26_yes (c := c) (hx.fr0 f) (by omega) hd)
      have hll : l.length ≤ 1000 := by
        unfold labD at hd
        obtain ⟨l', rfl, hl', _⟩ := afterC_some hd
        have := lab_len hl'
        omega
      have HM : Hid (∀ (w : World) A1 c1 A2 c2, IntsAt w A1 l → IntsAt w A2 l → Calls Try.prog 9 #[.slice A1 l.length c1, .slice A2 l.length c2] w (Rets (SamePost true w))) := Lib.hid (fun w A1 c1 A2 c2 h1 h2 => by
        have := Same_is (c := c1) (d := c2) h1 h2
        rwa [show decide (l = l) = true by simp] at this)
      clear hx hp hlab hd
      unfold YesPost at HA
      go_enter Try.func6, Try.ntmps6
      go_wp2_with (first
        | (go_at_call 8; refine (works26_is _).mono ?_; rintro e w' ⟨_, rfl, rfl, hf⟩)
        | (go_at_call 9; refine (HM.out w2 A1 c1 A2 c2 (hi1.fr0 hf2) hi2).mono ?_; rintro e w3 ⟨_, rfl, rfl, hf3⟩)
        | (go_at_call 19; refine (HB.out _ hf1).mono ?_; rintro e w2 ⟨_, rfl, hf2, A2, c2, rfl, hi2⟩)
        | (go_at_call 18; refine (HA.out).mono ?_; rintro e w1 ⟨_, rfl, hf1, A1, c1, rfl, ho1⟩; have hi1 := own_intsI ho1 (Nat.le_trans hll (Nat.le_of_ble_eq_true rfl))))
      go_ret
      exact ⟨_, rfl, rfl, (hf1.trans0 hf2).trans0 (hf3.trans0 hf)⟩
end Go.Proofs.Ytjijoghbcbdohaa
