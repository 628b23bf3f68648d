/- The graph's arcs, joined: the walk. -/
import Derived.Test.YtidpmbbkpclccaaJoinedPure
import Derived.Deep.Onto
import Derived.BigRegion
namespace Go.Proofs.Ytidpmbbkpclccaa
set_option linter.all false
open Go.RowKit
set_option maxRecDepth 100000

theorem DeleteFunc_nil {f : Nat} {caps : Array Value} {p : ArcI → Bool} {K : World → Prop} (hp : PredSpec f caps p K) (he : ∀ args w, (callFunc f args).run Try.prog w = .ok (.enter f args) w)
    {W : World} (hK : ∀ W W', K W → Fr0 W W' → K W') (h0 : K W) :
    Calls Try.prog 37 #[.slice none 0 0, .func (.func f) #[] caps] W (Rets (fun v w' => v = .slice none 0 0 ∧ Fr0 W w')) := by
  have hA : ArcsAt W none [] := ⟨by simp, .inl rfl⟩
  have HI := Lib.hid (IndexFunc_is (c := 0) hp hK he hA h0)
  clear hp hK
  go_enter Try.func37, Try.ntmps37
  go_wp2_with (go_at_call 36; refine HI.out.mono ?_; rintro e w2 ⟨_, rfl, rfl, h2⟩; rw [show idxI p [] = -1 from rfl])
  go_ret
  exact ⟨_, rfl, rfl, h2⟩
theorem cell3_new (W : World) (N : Nat) (hN : W.heap.size = N) (a : ArcI) (t : Nat) : ∀ j u, (arcV a)[j]? = some u → (W.alloc (.cells #[.int .i64 a.f, .int .i64 a.t, .int .i64 a.m] t)).cell? ((⟨N, 0, none⟩ : Addr).add j) = some u := by
  subst hN
  intro j u hu
  have hj : j < 3 := by
    by_cases h : j < 3
    · exact h
    · rw [List.getElem?_eq_none (by simp [arcV]; omega)] at hu; cases hu
  match j, hj with
  | 0, _ => rw [← hu]; simp [arcV, Addr.add]
  | 1, _ => rw [← hu]; simp [arcV, Addr.add]
  | 2, _ => rw [← hu]; simp [arcV, Addr.add]
theorem arcV_one (a : ArcI) : ∀ u ∈ arcV a, u.oneCell' = true := by
  intro u hu
  simp [arcV] at hu
  rcases hu with rfl | rfl | rfl <;> rfl
theorem arcCells_snoc (l : List ArcI) (a : ArcI) : arcCells l ++ arcV a = arcCells (l ++ [a]) := by simp [arcCells]
theorem drop_enters : ∀ args w, (callFunc 39 args).run Try.prog w = .ok (.enter 39 args) w := enters_of Try.func39 (by kernel_rfl) rfl
def JoinPost (W : World) (l : List ArcI) (v : Value) (w' : World) : Prop :=
  Fr0 W w' ∧ ∃ s : List ArcI, s.Perm (l.filter (fun a => !dropI a)) ∧ SortedOn s 0 s.length ∧ w'.ownsRow W.heap.size 29 3 v (joinL s).length (arcCells (joinL s))
set_option maxHeartbeats 4000000 in
theorem joined_is {W : World} {A : Option Addr} {c : Nat} {l : List ArcI} (hl : ArcsAt W A l) (hsm : l.length * 24 ≤ 140737488355328) :
    Calls Try.prog 19 #[.slice A l.length c] W (Rets (JoinPost W l)) := by
  have hde := drop_enters
  have hse := stands_enters
  obtain ⟨i0, hi, hz0, hz1, hz2⟩ := info_parts info_arc
  have HC := Lib.hid (CloneA_is (c := c) hl hsm)
  clear hl
  go_enter Try.func19, Try.ntmps19
  go_wp2_with fail
  refine HC.out.mono ?_
  clear HC
  rintro e w1 ⟨v1, rfl, hf1, hown1⟩
  rcases own_arr hown1 with ⟨rfl, hl0⟩ | ⟨g, cap, tail, rfl, hg, ha1, hcap, hmax, htl⟩
  · have hl0' := Lib.hid hl0
    clear hown1 hl0 hsm
    go_wp2_with fail
    refine (DeleteFunc_nil drop_is drop_enters (fun _ _ _ _ => trivial) trivial).mono ?_
    rintro e w2 ⟨_, rfl, rfl, hf2⟩
    go_wp2_with fail
    refine SortStable_nil.mono ?_
    rintro e w3 ⟨rfl, rfl⟩
    go_wp2_with fail
    go_loopw [4, 15] (fun v4 v15 wr => v4 = .slice none 0 0 ∧ v15 = .int .i64 0 ∧ wr = w3) (fun _ _ _ => 0)
    case atStart => exact ⟨rfl, rfl, rfl⟩
    case round =>
      obtain ⟨rfl, rfl, rfl⟩ := hrel
      go_wp2_with fail
      go_ret
      rw [hl0'.out]
      exact ⟨_, rfl, hf1.trans0 hf2, [], List.Perm.refl _, (fun p q _ _ h => by simp at h), own_nil _ _ _ _⟩
  · have HT := Lib.hid htl
    have HO1 := Lib.hid hown1
    clear htl hown1
    go_wp2_with fail
    refine (DeleteFunc_is drop_is drop_enters ha1 (by omega) hcap (fun _ _ _ _ => trivial) trivial).mono ?_
    rintro e w2 ⟨_, rfl, rfl, hf2, tail2, ha2⟩
    have hlen : (l.filter (fun a => !dropI a)).length ≤ l.length := List.length_filter_le _ _
    have hlen2 : (l.filter (fun a => !dropI a)).length ≤ 17592186044416 := by omega
    go_wp2_with fail
    refine (SortStable_is ha2 rfl hlen2).mono ?_
    rintro e w3 ⟨_, rfl, rfl, hf3, s, hs1, hs2, ha3⟩
    have hsl := hs1.len
    have hsl2 : s.length * 24 ≤ 140737488355328 := by omega
    have HF : Fr0 W w3 := (hf1.trans hf2 (fun j hj e => by omega)).trans hf3 (fun j hj e => by omega)
    have HS := Lib.hid (show s.Perm (l.filter (fun a => !dropI a)) ∧ SortedOn s 0 s.length from ⟨hs1.perm, by rw [hsl]; exact hs2⟩)
    rw [← hsl]
    clear hs1 hs2 hf1 hf2 hf3 ha1 ha2 HO1 HT hlen hlen2 hsl
    have hg3 : g < w3.heap.size := heap_lt ha3
    go_wp2_with fail
    go_loopw [4, 15] (fun v4 v15 wr => ∃ (k : Nat) (out : List ArcI), k ≤ s.length ∧ v15 = .int .i64 k ∧ Hid (joinL (s.take k) = out) ∧ Fr0 w3 wr ∧ Hid ((v4 = .slice none 0 0 ∧ out = []) ∨ 0 < out.length) ∧ Hid (wr.ownsRow w3.heap.size 29 3 v4 out.length (arcCells out))) (fun _ v15 _ => s.length - (intOf v15).toNat)
    case atStart => exact ⟨0, [], by omega, rfl, Lib.hid rfl, Fr.refl _ _, Lib.hid (.inl ⟨rfl, rfl⟩), Lib.hid (own_nil _ _ _ _)⟩
    case round =>
      obtain ⟨k, out, hk, rfl, HJ, hf, HV, HO⟩ := hrel
      by_cases hlt : k < s.length
      · have ha : ArrAt wr g s tail2 := hf.heap' ha3
        obtain ⟨c1, c2, c3⟩ := ha.arc hlt
        generalize hu : s.getD k default = u at c1 c2 c3
        have hstep : joinL (s.take (k + 1)) = joinS out u := by rw [take_snoc_a _ _ hlt, joinL_snoc, HJ.out, hu]
        have HST := Lib.hid hstep
        clear hu hstep
        rcases HV.out with ⟨rfl, rfl⟩ | hpos
        · have HO2 := HO.out
          clear HO HV
          go_wp2_with fail
          go_quiet (fail)
          have hszw : w3.heap.size ≤ wr.heap.size := hf.size
          go_wp2_with (at_builtin; refine wpList_append_own _ rfl _ _ 26 rfl w3.heap.size 29 i0 (.agg #[.int .i64 0, .int .i64 0, .int .i64 0]) 3 24 Try.underlying26 hi hz0 hz1 hz2 rfl (by decide) _ _ _ rfl (own_fr0 HO2 (((fr_alloc _ _ _).drewN _).alloc _)) _ 1 1 (arcV u) rfl rfl (cell3_new _ _ (by simp) _ _) (arcV_one u) (by unfold maxLen; decide) (by decide) (by simp; omega) ?_; intro v' w' hown' hgrow _)
          go_roundw
          case rel =>
            refine ⟨k + 1, [u], by omega, by go_num, Lib.hid HST.out, ?_, Lib.hid (.inr (by simp)), Lib.hid hown'⟩
            exact hf.trans0 ((((fr_alloc _ _ _).drewN _).alloc _).trans (append_fr0 (own_fr0 HO2 (((fr_alloc _ _ _).drewN _).alloc _)) hgrow) (fun j hj e => by simp [Value.ownBlock] at e))
          case measure => simp [intOf]; omega
        · rcases own_arr HO.out with ⟨_, e⟩ | ⟨q, qc, qt, rfl, hq, haq, hqc, hqm, hqt⟩
          · subst e; cases hpos
          obtain ⟨d1, d2, d3⟩ := haq.arc (j := out.length - 1) (by omega)
          generalize hv : out.getD (out.length - 1) default = v at d1 d2 d3
          have HVV := Lib.hid hv
          have HQT := Lib.hid hqt
          have HQ := Lib.hid haq
          have b0 : decide ((0 : Int) < (out.length : Int)) = true := by simp; omega
          have b2 : (out.length : Int) - 1 < (out.length : Int) := by omega
          have b1 : (1 : Int) ≤ (out.length : Int) := by omega
          have ht : ((out.length : Int) - 1).toNat = out.length - 1 := by omega
          have hok : out.length ≤ k := by rw [← HJ.out]; have := joinL_len (s.take k); rw [List.length_take] at this; omega
          have hw : IntKind.i64.wrap ((out.length : Int) - 1) = (out.length : Int) - 1 := by rw [IntKind.wrap_i64]; omega
          have haq' : ArrAt (wr.alloc (.cells #[.int .i64 u.f, .int .i64 u.t, .int .i64 u.m] 29)) q out qt := Fr0.heap' (fr_alloc _ _ _) haq
          have hszw : w3.heap.size ≤ wr.heap.size := hf.size
          have hub : ∀ j x, (arcV u)[j]? = some x → (wr.alloc (.cells #[.int .i64 u.f, .int .i64 u.t, .int .i64 u.m] 29)).cell? ((⟨wr.heap.size, 0, none⟩ : Addr).add j) = some x := cell3_new _ _ rfl _ _
          obtain ⟨d1, d2, d3⟩ := haq'.arc (j := out.length - 1) (by omega)
          rw [hv] at d1 d2 d3
          have HUB := Lib.hid hub
          have HW := Lib.hid hw
          clear hv hqt haq haq' hub
          go_wp2_with fail
          refine wp_region_still_tail 9 (by kernel_rfl) (by kernel_rfl) ?_
          simp only [List.take_succ_cons, List.take_zero, List.drop_succ_cons, List.drop_zero]
          change wpStill _ _ (World.drew _) _ _ _
          repeat still_step
          refine wpStill_nil ?_
          clear hw
          change wpList _ _ _ _ _ (World.drew _)
          go_wp2_with fail
          refine (stands_is _ _ _ _ _ _ _).mono ?_
          rintro e w2 ⟨_, rfl, rfl, h2⟩
          have h2' : Fr0 (wr.alloc (.cells #[.int .i64 u.f, .int .i64 u.t, .int .i64 u.m] 29)) w2 := Fr.trans (fr_drew _ _) h2 (fun _ _ x => x)
          have h3' : Fr0 wr w2 := (fr_alloc _ _ _).trans h2' (fun _ _ x => x)
          clear d1 d2 d3 h2
          have haq2 : ArrAt w2 q out qt := h3'.heap' HQ.out
          obtain ⟨d1, d2, d3⟩ := haq2.arc (j := out.length - 1) (by omega)
          rw [HVV.out] at d1 d2 d3
          have u1 : w2.cell? ⟨wr.heap.size, 0, none⟩ = some (.int .i64 u.f) := by simpa [Addr.add] using h2'.cell (HUB.out 0 _ rfl) (fun x => x)
          have u2 : w2.cell? ⟨wr.heap.size, 1, none⟩ = some (.int .i64 u.t) := by simpa [Addr.add] using h2'.cell (HUB.out 1 _ rfl) (fun x => x)
          have u3 : w2.cell? ⟨wr.heap.size, 2, none⟩ = some (.int .i64 u.m) := by simpa [Addr.add] using h2'.cell (HUB.out 2 _ rfl) (fun x => x)
          by_cases hz : standsI v.f v.t u.f u.t = 0
          · have hs1 := Lib.hid (HST.out.trans (joinS_eq hpos (by rw [HVV.out]; exact hz)))
            rw [HVV.out] at hs1
            have hzb : (standsI v.f v.t u.f u.t == 0) = true := by simpa using hz
            clear hz HST
            have g3 := haq2.frozen ((out.length - 1) * 3 + 2)
            have hset := Lib.hid (haq2.setM (i := out.length - 1) (by omega) (bits .or .i64 v.m u.m))
            rw [HVV.out] at hset
            go_wp2_with fail
            have hw := HW.out
            go_region
            clear hw
            go_wp2_with fail
            go_roundw
            case rel =>
              refine ⟨k + 1, _, by omega, by go_num, Lib.hid hs1.out, ?_, Lib.hid (.inr (by simp; omega)), Lib.hid ?_⟩
              · exact ((hf.trans0 h3').setCell ⟨q, (out.length - 1) * 3 + 2, none⟩ _ (fun h => absurd h (by show ¬ q < w3.heap.size; omega))).drew
              · have := arr_own hq hset.out (by rw [List.length_set]; exact hqc) hqm (by rw [List.length_set]; exact HQT.out)
                rw [List.length_set] at this ⊢
                exact this
            case measure => simp [intOf]; omega
          · have hs1 := Lib.hid (HST.out.trans (joinS_ne hpos (by rw [HVV.out]; exact hz)))
            have hzb : (standsI v.f v.t u.f u.t == 0) = false := by simpa using hz
            clear hz HST
            have HO2 : Hid (w2.ownsRow w3.heap.size 29 3 (.slice (some ⟨q, 0, none⟩) out.length qc) out.length (arcCells out)) := Lib.hid (own_fr0 HO.out h3')
            have hsz2 := h3'.size
            clear HO
            go_wp2_with (at_builtin; refine wpList_append_own _ rfl _ _ 26 rfl w3.heap.size 29 i0 (.agg #[.int .i64 0, .int .i64 0, .int .i64 0]) 3 24 Try.underlying26 hi hz0 hz1 hz2 rfl (by decide) _ _ _ rfl (own_fr0 HO2.out (fr_alloc _ _ _)) _ 1 1 (arcV u) rfl rfl (cell3_new _ _ (by simp) _ _) (arcV_one u) (by unfold maxLen; omega) (by omega) (by simp; omega) ?_; intro v' w' hown' hgrow _)
            go_roundw
            case rel =>
              rw [arcCells_snoc] at hown'
              refine ⟨k + 1, out ++ [u], by omega, by go_num, Lib.hid hs1.out, ?_, Lib.hid (.inr (by simp)), Lib.hid (by simpa using hown')⟩
              exact ((hf.trans0 h3').alloc _).trans (append_fr0 (own_fr0 HO2.out (fr_alloc _ _ _)) hgrow) (fun j hj e => by simp [Value.ownBlock] at e; omega)
            case measure => simp [intOf]; omega
      · go_wp2_with fail
        go_ret
        have e : joinL s = out := by rw [← HJ.out, List.take_of_length_le (by omega)]
        refine ⟨_, rfl, HF.trans0 hf, s, HS.out.1, HS.out.2, ?_⟩
        rw [e]
        exact HO.out.mono HF.size
end Go.Proofs.Ytidpmbbkpclccaa
