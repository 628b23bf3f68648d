/- Is there a cycle of a kind (closure.Exists). -/
import Derived.Test.YtdihpobegoihkaaDoorRule
namespace Go.Proofs.YtdihpobegoihkaaDoor
set_option linter.all false
open Go.RowKit
set_option maxRecDepth 100000

theorem ArcsG_is {W : World} {p : Option Addr} {n : Nat} {J : List ArcI} (h : GP W p n J) (hsm : J.length * 24 ≤ 140737488355328) :
    Calls Tryd.prog 62 #[.pointer p] W (Rets (OwnArcs W J)) := by
  rcases h with ⟨rfl, rfl, rfl⟩ | ⟨g, ab, A, c, rfl, h⟩
  · go_enter Tryd.func62, Tryd.ntmps62
    go_wp2_with fail
    go_ret
    exact ⟨_, rfl, Fr.refl _ _, own_nil _ _ _ _⟩
  · have h1 := h.gx.1
    have HC := Lib.hid (CloneA_is (c := c) h.gx.2.2.1 hsm)
    have g1 : W.cell? ⟨g, 1, none⟩ = some (.slice A J.length c) := by simp [World.cell?, h1]
    clear h h1
    go_enter Tryd.func62, Tryd.ntmps62
    go_wp2_with (go_at_call 80; refine (HC.out).mono ?_; rintro e w' ⟨_, rfl, k1, k2⟩)
    go_ret
    exact ⟨_, rfl, k1, k2⟩
/-- Is there a cycle of a kind, by what leads where. -/
def backI (n : Nat) (J : List ArcI) (need after : Int) (a : ArcI) : Bool := (bits .and .i64 a.m need != 0) && leadsI n (warsh (fun i => rowM n J after i) n) a.t a.f
def existsI (n : Nat) (J : List ArcI) (k : Int) : Bool := match ruleI k with
  | some (_, need, after) => J.any (backI n J need after)
  | none => false
theorem GP.fr0 {W W' : World} {p : Option Addr} {n : Nat} {J : List ArcI} (h : GP W p n J) (f : Fr0 W W') : GP W' p n J := by
  rcases h with h | ⟨g, ab, A, c, e, h⟩
  · exact .inl h
  · exact .inr ⟨g, ab, A, c, e, h.fr0 f⟩
set_option maxHeartbeats 4000000 in
theorem Exists_is {W : World} {p : Option Addr} {n : Nat} {J : List ArcI} (hg : GP W p n J) (hT : Tab W) (hsm : J.length * 24 ≤ 140737488355328) (k : Int) :
    Calls Tryd.prog 29 #[.pointer p, .int .i64 k] W (Rets (SamePost (existsI n J k) W)) := by
  have HRU := Lib.hid (RuleOf_is k (W := W))
  have HG := Lib.hid hg
  have HT := Lib.hid hT
  clear hg hT
  go_enter Tryd.func29, Tryd.ntmps29
  go_wp2_with fail
  refine HRU.out.mono ?_
  clear HRU
  rintro e w1 ⟨v1, rfl, hf1, hv1⟩
  cases hr : ruleI k with
  | none =>
    rw [hr] at hv1
    simp only at hv1
    subst hv1
    have e : existsI n J k = false := by simp [existsI, hr]
    have HE := Lib.hid e
    clear e hr
    go_wp2_with fail
    go_ret
    exact ⟨_, rfl, by rw [HE.out]; rfl, hf1.alloc _⟩
  | some t =>
    obtain ⟨pl, need, after⟩ := t
    rw [hr] at hv1
    simp only at hv1
    subst hv1
    have e : existsI n J k = J.any (backI n J need after) := by simp [existsI, hr]
    have HE := Lib.hid e
    clear e hr
    go_wp2_with fail
    obtain ⟨w2, hw2⟩ : ∃ w2, w1.alloc (.cells #[.int .i64 pl, .int .i64 need, .int .i64 after] 93) = w2 := ⟨_, rfl⟩
    have hf2 : Fr0 W w2 := hw2 ▸ hf1.alloc _
    have hnd : w2.cell? ⟨w1.heap.size, 1, none⟩ = some (.int .i64 need) := by rw [← hw2]; simp
    rw [hw2]
    refine (CloNew_is (HG.out.fr0 hf2) after (HT.out.fr hf2 (fun x => x))).mono ?_
    rintro e w3 ⟨_, rfl, cg, L, rfl, hf3, hC⟩
    have hHC := Lib.hid hC
    clear hC hw2 hf1
    go_wp2_with fail
    refine (ArcsG_is ((HG.out.fr0 hf2).fr0 hf3) hsm).mono ?_
    rintro e w4 ⟨v4, rfl, hf4, ho4⟩
    have hnd4 := hf4.cell (hf3.cell hnd (fun x => x)) (fun x => x)
    have hC4 := Lib.hid (hHC.out.fr0 hf4)
    have hF4 : Fr0 W w4 := (hf2.trans0 hf3).trans0 hf4
    obtain ⟨A4, c4, rfl⟩ := own_form ho4
    have hA4 := Lib.hid (own_arcs ho4 (by omega))
    have HSM := Lib.hid hsm
    clear hHC hf2 hf3 hf4 hnd ho4
    go_wp2_with fail
    go_loopw [24] (fun v wr => ∃ i : Nat, i ≤ J.length ∧ v = .int .i64 i ∧ Hid ((J.take i).any (backI n J need after) = false) ∧ Fr0 w4 wr) (fun v _ => J.length - (intOf v).toNat)
    case atStart => exact ⟨0, by omega, rfl, Lib.hid (by simp), Fr.refl _ _⟩
    case round =>
      obtain ⟨i, hi, rfl, HN, hf⟩ := hrel
      by_cases hlt : i < J.length
      · have hlt' : (i : Int) < (J.length : Int) := by omega
        have hAr := hA4.out.fr0 hf
        rcases hAr.2 with e | ⟨b, o, rfl, hc⟩
        · rw [e] at hlt; cases hlt
        obtain ⟨c1, c2, c3⟩ := hc i hlt
        have hst := any_take_succ hlt (backI n J need after)
        have hget := fun h => any_get (p := backI n J need after) hlt h
        generalize J.getD i default = a at c1 c2 c3 hst hget
        rw [HN.out, Bool.false_or] at hst
        have HS := Lib.hid hst
        have HGE := Lib.hid hget
        have hndr := ((hf.alloc (.cells #[.int .i64 a.f, .int .i64 a.t, .int .i64 a.m] 81))).cell hnd4 (fun x => x)
        have hnd0 := hf.cell hnd4 (fun x => x)
        have HL := Lib.hid (Leads_is (hC4.out.fr0 (hf.alloc (.cells #[.int .i64 a.f, .int .i64 a.t, .int .i64 a.m] 81))) a.t a.f)
        have hba : backI n J need after a = ((bits .and .i64 a.m need != 0) && leadsI n (warsh (fun i => rowM n J after i) n) a.t a.f) := rfl
        clear hst hget hc hAr
        by_cases hz : bits .and .i64 a.m need = 0
        · have hzb : (bits .and .i64 a.m need == 0) = true := by simpa using hz
          have hb : backI n J need after a = false := by rw [hba, hz]; rfl
          have HB := Lib.hid hb
          clear hb hba
          go_wp2_with fail
          go_roundw
          case rel => exact ⟨i + 1, by omega, by go_num, Lib.hid (by rw [HS.out, HB.out]), hf.alloc _⟩
          case measure => simp [intOf]; omega
        · have hzb : (bits .and .i64 a.m need == 0) = false := by simpa using hz
          have hzn : (bits .and .i64 a.m need != 0) = true := by simpa using hz
          rw [hzn, Bool.true_and] at hba
          cases hld : leadsI n (warsh (fun i => rowM n J after i) n) a.t a.f with
          | false =>
            rw [hld] at hba HL
            have HB := Lib.hid hba
            clear hba hzn
            go_wp2_with (go_at_call 23; refine (HL.out).mono ?_; rintro e w' ⟨rfl, rfl⟩)
            go_roundw
            case rel => exact ⟨i + 1, by omega, by go_num, Lib.hid (by rw [HS.out, HB.out]), hf.alloc _⟩
            case measure => simp [intOf]; omega
          | true =>
            rw [hld] at hba HL
            have HB := Lib.hid hba
            clear hba hzn
            go_wp2_with (go_at_call 23; refine (HL.out).mono ?_; rintro e w' ⟨rfl, rfl⟩)
            go_ret
            exact ⟨_, rfl, by rw [HE.out, HGE.out HB.out]; rfl, hF4.trans0 (hf.alloc _)⟩
      · have hx : J.any (backI n J need after) = false := by have := HN.out; rwa [List.take_of_length_le (by omega)] at this
        have HX := Lib.hid hx
        clear hx
        go_wp2_with fail
        go_ret
        exact ⟨_, rfl, by rw [HE.out, HX.out]; rfl, hF4.trans0 hf⟩
end Go.Proofs.YtdihpobegoihkaaDoor
