/- RuleK, Rule, Exists, Build, Agree, in one text. -/
import Derived.Test.YtdcjfpjpboafnaaDoorInts
import Derived.Test.YtdcjfpjpboafnaaDoorRefB
import Derived.Test.YtdcjfpjpboafnaaDoorCloNew
import Derived.BigRegion
import Derived.Test.YtdcjfpjpboafnaaDoorRef36
namespace Go.Proofs.YtdcjfpjpboafnaaDoor
set_option linter.all false
open Go.RowKit
set_option maxRecDepth 100000

/-- The rule of a kind, if it has one. -/
def ruleI (k : Int) : Option (Int × Int × Int) := if k = 6 then some (1, 1, 1) else if k = 9 then some (3, 2, 3) else if k = 10 then some (3, 4, 3) else if k = 11 then some (7, 4, 7) else none
def RulePost (k : Int) (W : World) (v : Value) (w' : World) : Prop :=
  Fr0 W w' ∧ v = match ruleI k with
    | some (a, b, c) => .tuple #[.agg #[.int .i64 a, .int .i64 b, .int .i64 c], .bool true]
    | none => .tuple #[.agg #[.int .i64 0, .int .i64 0, .int .i64 0], .bool false]
theorem RuleOf_is (k : Int) {W : World} : Calls Tryd.prog 7 #[.int .i64 k] W (Rets (RulePost k W)) := by
  by_cases h1 : k = 6
  · subst h1
    go_enter Tryd.func7, Tryd.ntmps7
    go_wp2_with fail
    (try simp only [Exit.inBlock, Exit.then])
    refine bodyPost_ret (v := .tuple #[.agg #[.int .i64 1, .int .i64 1, .int .i64 1], .bool true]) ?_ rfl ?_
    · simp only [results, show Tryd.f7.results = #[ResultVar.cell 2 23, ResultVar.tmp 3] from rfl]
      go_simp
    · exact ⟨_, rfl, fr_alloc _ _ _, rfl⟩
  by_cases h2 : k = 9
  · subst h2
    go_enter Tryd.func7, Tryd.ntmps7
    go_wp2_with fail
    (try simp only [Exit.inBlock, Exit.then])
    refine bodyPost_ret (v := .tuple #[.agg #[.int .i64 3, .int .i64 2, .int .i64 3], .bool true]) ?_ rfl ?_
    · simp only [results, show Tryd.f7.results = #[ResultVar.cell 2 23, ResultVar.tmp 3] from rfl]
      go_simp
    · exact ⟨_, rfl, fr_alloc _ _ _, rfl⟩
  by_cases h3 : k = 10
  · subst h3
    go_enter Tryd.func7, Tryd.ntmps7
    go_wp2_with fail
    (try simp only [Exit.inBlock, Exit.then])
    refine bodyPost_ret (v := .tuple #[.agg #[.int .i64 3, .int .i64 4, .int .i64 3], .bool true]) ?_ rfl ?_
    · simp only [results, show Tryd.f7.results = #[ResultVar.cell 2 23, ResultVar.tmp 3] from rfl]
      go_simp
    · exact ⟨_, rfl, fr_alloc _ _ _, rfl⟩
  by_cases h4 : k = 11
  · subst h4
    go_enter Tryd.func7, Tryd.ntmps7
    go_wp2_with fail
    (try simp only [Exit.inBlock, Exit.then])
    refine bodyPost_ret (v := .tuple #[.agg #[.int .i64 7, .int .i64 4, .int .i64 7], .bool true]) ?_ rfl ?_
    · simp only [results, show Tryd.f7.results = #[ResultVar.cell 2 23, ResultVar.tmp 3] from rfl]
      go_simp
    · exact ⟨_, rfl, fr_alloc _ _ _, rfl⟩
  have e : ruleI k = none := by simp [ruleI, h1, h2, h3, h4]
  have b1 : (k == 6) = false := by simpa using h1
  have b2 : (k == 9) = false := by simpa using h2
  have b3 : (k == 10) = false := by simpa using h3
  have b4 : (k == 11) = false := by simpa using h4
  go_enter Tryd.func7, Tryd.ntmps7
  go_wp2_with fail
  (try simp only [Exit.inBlock, Exit.then])
  refine bodyPost_ret (v := .tuple #[.agg #[.int .i64 0, .int .i64 0, .int .i64 0], .bool false]) ?_ rfl ?_
  · simp only [results, show Tryd.f7.results = #[ResultVar.cell 2 23, ResultVar.tmp 3] from rfl]
    go_simp
  · exact ⟨_, rfl, fr_alloc _ _ _, by rw [e]⟩
end Go.Proofs.YtdcjfpjpboafnaaDoor
/- The rule of a kind; what closures are built of. -/
namespace Go.Proofs.YtdcjfpjpboafnaaDoor
set_option linter.all false
open Go.RowKit
set_option maxRecDepth 100000

/-- Is there a cycle of a kind, by what leads where. -/
def backI (n : Nat) (J : List ArcI) (need after : Int) (a : ArcI) : Bool := (bits .and .i64 a.m need != 0) && leadsI n (warsh (fun i => rowM n J after i) n) a.t a.f
def existsI (n : Nat) (J : List ArcI) (k : Int) : Bool := match ruleI k with
  | some (_, need, after) => J.any (backI n J need after)
  | none => false
theorem GP.fr0 {W W' : World} {p : Option Addr} {n : Nat} {J : List ArcI} (h : GP W p n J) (f : Fr0 W W') : GP W' p n J := by
  rcases h with h | ⟨g, ab, A, c, e, h⟩
  · exact .inl h
  · exact .inr ⟨g, ab, A, c, e, h.fr0 f⟩
end Go.Proofs.YtdcjfpjpboafnaaDoor
namespace Go.Proofs.YtdcjfpjpboafnaaDoor
set_option linter.all false
open Go.RowKit
attribute [local go_sem ↓] appendH_eq
set_option maxRecDepth 100000

def BuildPost (W : World) (n : Nat) (l : List ArcI) (v : Value) (w' : World) : Prop :=
  ∃ g s, v = .pointer (some ⟨g, 0, none⟩) ∧ Fr0 W w' ∧ s.Perm (l.filter (fun a => !dropI a)) ∧ SortedOn s 0 s.length ∧ ∃ ab A c, GX w' g n (joinL s) ab A c
end Go.Proofs.YtdcjfpjpboafnaaDoor
namespace Go.Proofs.YtdcjfpjpboafnaaDoor
set_option linter.all false
open Go.RowKit
set_option maxRecDepth 100000

/-- J: the joined arcs of a graph that was built of the arcs l. -/
def Built (n : Nat) (l J : List ArcI) : Prop := l.any (badI n) = false ∧ ∃ s : List ArcI, s.Perm (l.filter (fun a => !dropI a)) ∧ SortedOn s 0 s.length ∧ J = joinL s
/-- The document's masks of the arcs l. -/
abbrev mxL (l : List ArcI) : Nat → Nat → Int := fun a b => orM l a b
theorem Built.ok {n : Nat} {l J : List ArcI} (h : Built n l J) : JOk n J := by
  obtain ⟨h1, s, hp, hs, rfl⟩ := h
  exact ⟨join_ends hp h1, joinL_rise hs⟩
theorem Built.len {n : Nat} {l J : List ArcI} (h : Built n l J) : J.length ≤ l.length := by
  obtain ⟨h1, s, hp, hs, rfl⟩ := h
  exact Nat.le_trans (joinL_len s) (by rw [hp.length_eq]; exact List.length_filter_le _ _)
theorem hit_fold (m a b : Int) : ∀ (l : List ArcI) (x : Int), hit m (l.foldl (fun x u => if u.f ≠ u.t ∧ u.f = a ∧ u.t = b then bits .or .i64 x u.m else x) x) = (hit m x || (arcHit m l a b && decide (a ≠ b)))
  | [], x => by simp [arcHit]
  | u :: l, x => by
    rw [List.foldl_cons, hit_fold m a b l]
    simp only [arcHit, List.any_cons]
    by_cases h : u.f ≠ u.t ∧ u.f = a ∧ u.t = b
    · rw [if_pos h, hit_or]
      obtain ⟨h1, h2, h3⟩ := h
      have hab : decide (a ≠ b) = true := by rw [decide_eq_true_iff]; rw [← h2, ← h3]; exact h1
      simp [h2, h3, hab, Bool.or_assoc]
    · rw [if_neg h]
      by_cases h2 : u.f = a
      · by_cases h3 : u.t = b
        · have hab : a = b := by
            by_cases h1 : u.f = u.t
            · rw [← h2, ← h3]; exact h1
            · exact absurd ⟨h1, h2, h3⟩ h
          simp [hab]
        · simp [show (u.t == b) = false by simpa using h3]
      · simp [show (u.f == a) = false by simpa using h2]
theorem hit_orM (m : Int) (l : List ArcI) (a b : Int) : hit m (orM l a b) = (arcHit m l a b && decide (a ≠ b)) := by
  rw [orM, hit_fold, hit_zero, Bool.false_or]
theorem Built.hit {n : Nat} {l J : List ArcI} (h : Built n l J) (m : Int) (u w : Nat) : rowM n J m u w = (arcHit m l u w && decide ((u : Int) ≠ (w : Int))) := by
  rw [rowM_iff h.ok]
  obtain ⟨h1, s, hp, hs, rfl⟩ := h
  exact arcHit_graph hp m u w
theorem arcHit_in {n : Nat} {l : List ArcI} (h : l.any (badI n) = false) {m a b : Int} (hh : arcHit m l a b = true) : 0 ≤ a ∧ a < n ∧ 0 ≤ b ∧ b < n := by
  obtain ⟨u, hu, he⟩ := List.any_eq_true.1 hh
  simp only [Bool.and_eq_true, beq_iff_eq] at he
  have := List.any_eq_false.1 h u hu
  have := bad_ends (a := u) (by simpa using this)
  obtain ⟨⟨e1, e2⟩, _⟩ := he
  subst e1
  subst e2
  exact this
/-- The document's arcs are those of the graph that was built. -/
theorem Built.out {n : Nat} {l J : List ArcI} (h : Built n l J) (m : Int) (u w : Nat) : outR n (mxL l) u m w = rowM n J m u w := by
  rw [h.hit]
  show Go.Proofs.YtdcjfpjpboafnaaDoor.hit m (maskR n (mxL l) u w) = _
  unfold maskR
  split
  · rename_i hr
    have := hit_orM m l u w
    simpa using this
  · rename_i hr
    rw [hit_zero]
    cases hh : arcHit m l u w with
    | false => rfl
    | true => exact absurd (arcHit_in h.1 hh) hr
theorem outR_out {n : Nat} {Mx : Nat → Nat → Int} {v m : Int} (hv : ¬ (0 ≤ v ∧ v < n)) (w : Nat) : outR n Mx v m w = false := by
  show hit m (maskR n Mx v w) = false
  rw [maskR, if_neg (fun h => hv ⟨h.1, h.2.1⟩), hit_zero]
theorem Built.lt {n : Nat} {l J : List ArcI} (h : Built n l J) {m : Int} {u w : Nat} (hh : rowM n J m u w = true) : u < n ∧ w < n := by
  rw [h.hit, Bool.and_eq_true] at hh
  have := arcHit_in h.1 hh.1
  omega
theorem mem_natI_range {n w : Nat} : (w : Int) ∈ natI (List.range n) ↔ w < n := by
  rw [mem_natI]
  constructor
  · rintro ⟨k, hk, e⟩; have := List.mem_range.1 hk; omega
  · intro h; exact ⟨w, List.mem_range.2 h, rfl⟩
theorem mem_natI_elems {n w : Nat} {p : Nat → Bool} : (w : Int) ∈ natI (elems n p) ↔ w < n ∧ p w = true := by
  rw [mem_natI]
  constructor
  · rintro ⟨k, hk, e⟩
    have : k = w := by omega
    subst this
    exact mem_elems.1 hk
  · intro h; exact ⟨w, mem_elems.2 h, rfl⟩
/-- All within: an arc within all vertices is an arc. -/
theorem Built.arc {n : Nat} {l J : List ArcI} (h : Built n l J) (m : Int) : arcR n (mxL l) (natI (List.range n)) m = fun u w => rowM n J m u w := by
  funext u w
  rw [arcR, h.out]
  cases hh : rowM n J m u w with
  | false => rfl
  | true => simp [mem_natI_range, (h.lt hh).2]
theorem elems_congr {n : Nat} {p q : Nat → Bool} (h : ∀ w, w < n → p w = q w) : elems n p = elems n q := List.filter_congr (fun w hw => h w (List.mem_range.1 hw))
theorem Built.closed {n : Nat} {l J : List ArcI} (h : Built n l J) (m : Int) (a b : Nat) : warsh (fun i => rowM n J m i) n a b = true ↔ Reach (fun u w => rowM n J m u w) a b := warsh_iff (fun i x hx => (h.lt hx).2) a b
theorem Built.closed_lt {n : Nat} {l J : List ArcI} (h : Built n l J) {m : Int} {a b : Nat} (hh : warsh (fun i => rowM n J m i) n a b = true) : a < n ∧ b < n := by
  have hr := (h.closed m a b).1 hh
  induction hr with
  | one h1 => exact h.lt h1
  | more h1 h2 ih => exact ⟨(h.lt h1).1, (ih ((h.closed m _ _).2 h2)).2⟩
/-- What a vertex leads to: the document's row and the closing's. -/
theorem Built.row {n : Nat} {l J : List ArcI} (h : Built n l J) (m a : Int) : elems n (rowR n (mxL l) a m) = elems n (rowI n (warsh (fun i => rowM n J m i) n) a) := by
  apply elems_congr
  intro w hw
  rw [Bool.eq_iff_iff]
  have hst : ∀ u, startR (natI (elems n (outR n (mxL l) a m))) (natI (List.range n)) u = true ↔ u < n ∧ outR n (mxL l) a m u = true := by
    intro u
    simp only [startR, Bool.and_eq_true, decide_eq_true_eq, mem_natI_elems, mem_natI_range]
    constructor
    · rintro ⟨h1, _⟩; exact h1
    · intro h1; exact ⟨h1, h1.1⟩
  rw [rowR, fromR, h.arc]
  simp only [Bool.and_eq_true, decide_eq_true_eq]
  rw [iterP_all (fun w hw => ((hst w).1 hw).1) (fun u w hh => (h.lt hh).2) (Nat.le_succ n)]
  simp only [hst, rowI, Bool.and_eq_true]
  by_cases ha : 0 ≤ a ∧ a < n
  · obtain ⟨v, rfl⟩ : ∃ v : Nat, a = (v : Int) := ⟨a.toNat, by omega⟩
    have hh : hasI n (v : Int) = true := by simp [hasI]; omega
    rw [Int.toNat_natCast, h.closed]
    simp only [hh, true_and]
    constructor
    · rintro ⟨_, u, ⟨hu, ho⟩, hr⟩
      rw [h.out] at ho
      rcases hr with rfl | hr
      · exact .one ho
      · exact .more ho hr
    · intro hr
      refine ⟨hw, ?_⟩
      cases hr with
      | one h1 => exact ⟨w, ⟨hw, by rw [h.out]; exact h1⟩, .inl rfl⟩
      | more h1 h2 => exact ⟨_, ⟨(h.lt h1).2, by rw [h.out]; exact h1⟩, .inr h2⟩
  · have hh : hasI n a = false := by
      simp only [hasI, Bool.and_eq_false_iff, decide_eq_false_iff_not]
      by_cases h0 : 0 ≤ a
      · exact .inr (fun h1 => ha ⟨h0, h1⟩)
      · exact .inl h0
    simp only [hh, Bool.false_eq_true, false_and, iff_false]
    rintro ⟨_, u, ⟨_, ho⟩, _⟩
    rw [outR_out ha] at ho
    cases ho
theorem Built.leads {n : Nat} {l J : List ArcI} (h : Built n l J) (m a b : Int) : leadsR n (mxL l) a b m = leadsI n (warsh (fun i => rowM n J m i) n) a b := by
  rw [leadsR, h.row, Bool.eq_iff_iff, decide_eq_true_eq, mem_natI]
  simp only [leadsI, Bool.and_eq_true, decide_eq_true_eq, mem_elems, rowI]
  constructor
  · rintro ⟨k, ⟨hk, h1, h2⟩, rfl⟩
    exact ⟨h1, by omega, by rw [Int.toNat_natCast]; exact h2⟩
  · rintro ⟨h1, h2, h3⟩
    exact ⟨b.toNat, ⟨(h.closed_lt h3).2, h1, h3⟩, by omega⟩
theorem Built.cyclic {n : Nat} {l J : List ArcI} (h : Built n l J) (m : Int) : elems n (fun v : Nat => leadsR n (mxL l) v v m) = elems n (fun v => warsh (fun i => rowM n J m i) n v v) := by
  apply elems_congr
  intro w hw
  have hh : hasI n (w : Int) = true := by simp [hasI]; omega
  rw [h.leads, leadsI, hh, Int.toNat_natCast]
  simp
theorem built_of {W w' : World} {n : Nat} {l : List ArcI} {v : Value} (hn : n ≤ 1024) (hall : l.any (badI n) = false) (h : BuildPost W n l v w') :
    ∃ g J, v = .pointer (some ⟨g, 0, none⟩) ∧ Fr0 W w' ∧ Built n l J ∧ GP w' (some ⟨g, 0, none⟩) n J := by
  obtain ⟨g, s, rfl, hf, hp, hs, ab, A, c, hG⟩ := h
  exact ⟨g, joinL s, rfl, hf, ⟨hall, s, hp, hs, rfl⟩, .inr ⟨g, ab, A, c, rfl, built_isG hn hp hs hall hG⟩⟩
theorem SameN_is {W : World} {B B' c d : Nat} {A A' : Option Addr} {l : List Nat} (h : W.ownsRow B 3 1 (.slice A l.length c) l.length (ints l)) (h2 : W.ownsRow B' 3 1 (.slice A' l.length d) l.length (ints l)) (hlen : l.length ≤ 140737488355328) :
    Calls Tryd.prog 17 #[.slice A l.length c, .slice A' l.length d] W (Rets (SamePost true W)) := by
  have := Same_is (c := c) (d := d) (own_ints h hlen) (own_ints h2 hlen)
  rw [show decide (natI l = natI l) = true by simp, show (natI l).length = l.length by simp [natI]] at this
  exact this
end Go.Proofs.YtdcjfpjpboafnaaDoor
