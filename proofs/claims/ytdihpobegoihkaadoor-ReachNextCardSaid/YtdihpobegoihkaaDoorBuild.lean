/- The statements' building of a graph. -/
import Derived.Test.YtdihpobegoihkaaDoorExists
import Derived.BigRegion
namespace Go.Proofs.YtdihpobegoihkaaDoor
set_option linter.all false
open Go.RowKit
attribute [local go_sem ↓] appendH_eq
set_option maxRecDepth 100000

def BuildPost (W : World) (n : Nat) (l : List ArcI) (v : Value) (w' : World) : Prop :=
  ∃ g s, v = .pointer (some ⟨g, 0, none⟩) ∧ Fr0 W w' ∧ s.Perm (l.filter (fun a => !dropI a)) ∧ SortedOn s 0 s.length ∧ ∃ ab A c, GX w' g n (joinL s) ab A c
set_option maxHeartbeats 4000000 in
theorem build_is {W : World} {A : Option Addr} {c : Nat} {l : List ArcI} (hl : ArcsAt W A l) (hsm : l.length ≤ 1000000) {n : Nat} (hn : n ≤ 1024) (hall : l.any (badI n) = false) :
    Calls Tryd.prog 17 #[.int .i64 n, .slice A l.length c] W (Rets (BuildPost W n l)) := by
  obtain ⟨i0, hi0, hz0, hz1, hz2⟩ := info_parts info_arc
  have HA := Lib.hid hl
  have HALL := Lib.hid hall
  clear hl hall
  go_enter Tryd.func17, Tryd.ntmps17
  go_wp2_with fail
  go_loopw [5, 6] (fun v5 v6 wr => ∃ i : Nat, i ≤ l.length ∧ v6 = .int .i64 i ∧ Fr0 W wr ∧ Hid (wr.ownsRow W.heap.size 81 3 v5 i (arcCells (l.take i)))) (fun _ v6 _ => l.length - (intOf v6).toNat)
  case atStart => exact ⟨0, by omega, rfl, Fr.refl _ _, Lib.hid (own_nil _ _ _ _)⟩
  case round =>
    obtain ⟨i, hi, rfl, hf, HO⟩ := hrel
    obtain ⟨A5, c5, e5⟩ := own_form HO.out
    subst e5
    by_cases hlt : i < l.length
    · have hlt' : (i : Int) < (l.length : Int) := by omega
      rcases (HA.out.fr0 hf).2 with e | ⟨b, o, rfl, hc⟩
      · rw [e] at hlt; cases hlt
      obtain ⟨c1, c2, c3⟩ := hc i hlt
      have htk := take_snoc_a l i hlt
      generalize l.getD i default = a at c1 c2 c3 htk
      have HTK := Lib.hid htk
      clear htk hc
      have hsz := hf.size
      have hfX : Fr0 wr (wr.alloc (.cells #[.int .i64 a.f, .int .i64 a.t, .int .i64 a.m] 81)) := fr_alloc _ _ _
      have ho1 := own_fr0 HO.out (hfX.trans0 (fr_drew _ _))
      have hnew : ∀ j u, (arcV a)[j]? = some u → (wr.alloc (.cells #[.int .i64 a.f, .int .i64 a.t, .int .i64 a.m] 81)).drew.cell? ((⟨wr.heap.size, 0, none⟩ : Addr).add j) = some u := cell3_new wr _ rfl a _
      obtain ⟨v', w', hap, ho2, hgb, _⟩ := run_append_own (P := Tryd.prog) (w := (wr.alloc (.cells #[.int .i64 a.f, .int .i64 a.t, .int .i64 a.m] 81)).drew) W.heap.size 80 80 81 i0 (.agg #[.int .i64 0, .int .i64 0, .int .i64 0]) 3 24 Tryd.underlying80 hi0 hz0 hz1 hz2 rfl (by decide) (.slice A5 i c5) i (arcCells (l.take i)) ho1 ⟨wr.heap.size, 0, none⟩ 1 1 (arcV a) rfl hnew (arcV_one a) (by unfold maxLen; omega) (by omega) (Nat.le_trans hsz (by show wr.heap.size ≤ (wr.alloc _).heap.size; rw [World.size_alloc]; exact Nat.le_succ _))
      rw [appendH_eq] at hap
      have hfA : Fr0 W w' := (hf.trans0 (hfX.trans0 (fr_drew _ _))).trans (append_fr0 ho1 hgb) (fun j hj e => own_old ho1 hj e)
      obtain ⟨A6, c6, rfl⟩ := own_form ho2
      have HO2 := Lib.hid ho2
      clear ho1 ho2 hgb hnew
      go_wp2_with fail
      go_region
      go_wp2_with fail
      go_roundw
      case rel => exact ⟨i + 1, by omega, by go_num, hfA, Lib.hid (by rw [HTK.out, ← arcCells_snoc]; exact HO2.out)⟩
      case measure => simp [intOf]; omega
    · have hie : i = l.length := by omega
      subst hie
      have ho := HO.out
      rw [List.take_of_length_le (Nat.le_refl _)] at ho
      have HN := Lib.hid (NewG_is (c := c5) (own_arcs ho (by omega)) (by omega) hn HALL.out)
      clear ho
      go_wp2_with (go_at_call 54; refine (HN.out).mono ?_; rintro e w' ⟨_, rfl, g, s, rfl, k1, k2, k3, k4, k5⟩)
      go_ret
      exact ⟨_, rfl, g, s, rfl, hf.trans0 k1, k3, k4, k5⟩
end Go.Proofs.YtdihpobegoihkaaDoor
