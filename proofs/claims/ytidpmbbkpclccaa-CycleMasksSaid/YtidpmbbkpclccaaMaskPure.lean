/- The mask of an arc, in the graph as in the document: pure. -/
import Derived.Test.YtidpmbbkpclccaaMasks
import Derived.Test.YtidpmbbkpclccaaRefNew
namespace Go.Proofs.Ytidpmbbkpclccaa
set_option linter.all false
open Go
set_option maxRecDepth 100000

/-- In its kind's bounds. -/
def inR (x : Int) : Prop := IntKind.i64.wrap x = x
theorem inR_or (x y : Int) : inR (bits .or .i64 x y) := by
  have h : bits .or .i64 x y = IntKind.i64.wrap ((bv x ||| bv y).toNat : Int) := rfl
  unfold inR
  rw [h, IntKind.wrap_i64, IntKind.wrap_i64]
  omega
theorem inR_bv {x y : Int} (hx : inR x) (hy : inR y) (h : bv x = bv y) : x = y := by
  unfold inR at hx hy
  have h2 : (bv x).toNat = (bv y).toNat := by rw [h]
  rw [bv, bv, BitVec.toNat_ofInt, BitVec.toNat_ofInt] at h2
  rw [IntKind.wrap_i64] at hx hy
  omega
theorem hit_eq {x y : Int} (hx : inR x) (hy : inR y) (h : ∀ m, hit m x = hit m y) : x = y := by
  refine inR_bv hx hy ?_
  have key : ∀ a b : Int, (∀ m, hit m a = hit m b) → bv a &&& ~~~ (bv b) = 0#64 := by
    intro a b h
    have h1 := h ((~~~ (bv b)).toNat : Int)
    cases h2 : hit ((~~~ (bv b)).toNat : Int) b with
    | true =>
      rw [hit_iff, bv_nat] at h2
      exact absurd (by apply BitVec.eq_of_getLsbD_eq; intro i hi; simp [hi]) h2
    | false =>
      rw [h2] at h1
      by_cases hz : bv a &&& ~~~ (bv b) = 0#64
      · exact hz
      · have := (hit_iff ((~~~ (bv b)).toNat : Int) a).2 (by rw [bv_nat]; exact hz)
        rw [h1] at this; cases this
  have k1 := key x y h
  have k2 := key y x (fun m => (h m).symm)
  apply BitVec.eq_of_getLsbD_eq
  intro i hi
  have e1 := congrArg (fun v : BitVec 64 => v.getLsbD i) k1
  have e2 := congrArg (fun v : BitVec 64 => v.getLsbD i) k2
  simp [hi] at e1 e2
  cases hx : (bv x).getLsbD i <;> cases hy : (bv y).getLsbD i <;> simp_all
/-- The mask of an arc that leads to a vertex, in a row. -/
def maskL (J : List ArcI) (v w : Nat) : Int := ((rowL J v).find? (fun a => a.t == (w : Int))).elim 0 (·.m)
theorem orM_inR {l : List ArcI} (h : ∀ a ∈ l, inR a.m) (a b : Int) : inR (orM l a b) := by
  unfold orM
  have : ∀ (l : List ArcI) (x : Int), inR x → inR (l.foldl (fun x u => if u.f ≠ u.t ∧ u.f = a ∧ u.t = b then bits .or .i64 x u.m else x) x) := by
    intro l
    induction l with
    | nil => intro x hx; exact hx
    | cons u l ih =>
      intro x hx
      rw [List.foldl_cons]
      refine ih _ ?_
      split
      · exact inR_or _ _
      · exact hx
  exact this l 0 (by unfold inR; rw [IntKind.wrap_i64]; decide)
theorem joinL_inR {l : List ArcI} (h : ∀ a ∈ l, inR a.m) : ∀ a ∈ joinL l, inR a.m := by
  unfold joinL
  have : ∀ (l acc : List ArcI), (∀ a ∈ l, inR a.m) → (∀ a ∈ acc, inR a.m) → ∀ a ∈ l.foldl joinS acc, inR a.m := by
    intro l
    induction l with
    | nil => intro acc _ h2; exact h2
    | cons u l ih =>
      intro acc h1 h2
      rw [List.foldl_cons]
      refine ih _ (fun a ha => h1 a (by simp [ha])) ?_
      intro a ha
      by_cases h0 : 0 < acc.length
      · by_cases hs : standsI (acc.getD (acc.length - 1) default).f (acc.getD (acc.length - 1) default).t u.f u.t = 0
        · rw [joinS_eq h0 hs] at ha
          rcases List.mem_or_eq_of_mem_set ha with ha | rfl
          · exact h2 a ha
          · exact inR_or _ _
        · rw [joinS_ne h0 hs] at ha
          rcases List.mem_append.1 ha with ha | ha
          · exact h2 a ha
          · rw [List.mem_singleton.1 ha]; exact h1 u (by simp)
      · have e : acc = [] := List.length_eq_zero_iff.1 (by omega)
        subst e
        rw [joinS_nil] at ha
        rw [List.mem_singleton.1 ha]; exact h1 u (by simp)
  exact this l [] h (by simp)
theorem rowL_filter2 (v : Nat) : ∀ J : List ArcI, J.Pairwise (fun a b => a.f ≤ b.f) → rowL J v = J.filter (fun a => decide (a.f = (v : Int))) := by
  intro J
  induction J with
  | nil => intro _; rfl
  | cons a J ih =>
    intro hp
    rw [List.pairwise_cons] at hp
    have h1 := ih hp.2
    have hF : cntF (a :: J) v = (if a.f < (v : Int) then 1 else 0) + cntF J v := by
      simp only [cntF, List.filter_cons]
      by_cases e : a.f < (v : Int)
      · simp only [e, decide_true, if_true, List.length_cons]; omega
      · simp only [e, decide_false, if_false, Bool.false_eq_true]; omega
    have hC : cnt1 (a :: J) (v + 1) = (if a.f = (v : Int) then 1 else 0) + cnt1 J (v + 1) := by
      simp only [cnt1, List.filter_cons]
      by_cases e : a.f = (v : Int)
      · have e2 : a.f + 1 = ((v + 1 : Nat) : Int) := by omega
        rw [if_pos (decide_eq_true e2), if_pos e, List.length_cons]; omega
      · have e2 : ¬ a.f + 1 = ((v + 1 : Nat) : Int) := by omega
        rw [if_neg (by simpa using e2), if_neg e]; omega
    rcases Int.lt_trichotomy a.f (v : Int) with e | e | e
    · rw [rowL, hF, hC, if_pos e, if_neg (show ¬ a.f = (v : Int) by omega), Nat.zero_add, Nat.add_comm 1, List.drop_succ_cons, List.filter_cons, if_neg (by simp; omega), ← h1]
      rfl
    · have hz : cntF J v = 0 := by
        unfold cntF
        rw [List.length_eq_zero_iff, List.filter_eq_nil_iff]
        intro b hb; have := hp.1 b hb; simp; omega
      rw [rowL, hF, hC, if_neg (show ¬ a.f < (v : Int) by omega), if_pos e, Nat.zero_add, hz, List.drop_zero, Nat.add_comm 1, List.take_succ_cons, List.filter_cons, if_pos (by simpa using e), ← h1, rowL, hz, List.drop_zero]
    · have hz : cntF J v = 0 := by
        unfold cntF
        rw [List.length_eq_zero_iff, List.filter_eq_nil_iff]
        intro b hb; have := hp.1 b hb; simp; omega
      have hz1 : cnt1 J (v + 1) = 0 := by
        unfold cnt1
        rw [List.length_eq_zero_iff, List.filter_eq_nil_iff]
        intro b hb; have := hp.1 b hb; simp; omega
      rw [rowL, hF, hC, if_neg (show ¬ a.f < (v : Int) by omega), if_neg (show ¬ a.f = (v : Int) by omega), hz1, Nat.add_zero, List.take_zero, List.filter_cons, if_neg (by simp; omega), ← h1, rowL, hz1, List.take_zero]
/-- A row's ends rise strictly. -/
theorem rowL_rise {s : List ArcI} (hs : SortedOn s 0 s.length) (v : Nat) : (rowL (joinL s) v).Pairwise (fun a b => a.t < b.t) := by
  have hk := joinL_keys hs
  rw [List.pairwise_map] at hk
  have hp : (joinL s).Pairwise (fun a b => a.f ≤ b.f) := hk.imp (fun h => by unfold ltK keyA at h; simp only at h; omega)
  rw [rowL_filter2 v _ hp]
  refine (List.Pairwise.filter _ hk).imp_of_mem ?_
  intro a b ha hb h
  have h1 := (List.mem_filter.1 ha).2
  have h2 := (List.mem_filter.1 hb).2
  simp only [decide_eq_true_eq] at h1 h2
  unfold ltK keyA at h
  simp only at h
  omega
theorem find_hit {l : List ArcI} (h : l.Pairwise (fun a b => a.t < b.t)) (m t : Int) : hit m ((l.find? (fun a => a.t == t)).elim 0 (·.m)) = l.any (fun a => a.t == t && hit m a.m) := by
  induction l with
  | nil => exact hit_zero m
  | cons a l ih =>
    rw [List.pairwise_cons] at h
    rw [List.find?_cons, List.any_cons]
    by_cases e : a.t = t
    · have hno : l.any (fun a => a.t == t && hit m a.m) = false := List.any_eq_false.2 (fun b hb => by
        have := h.1 b hb
        simp [show ¬ b.t = t by omega])
      simp [e, hno]
    · rw [show (a.t == t) = false by simpa using e]
      simpa using ih h.2
theorem hit_fold2 (m a b : Int) : ∀ (l : List ArcI) (x : Int), hit m (l.foldl (fun x u => if u.f ≠ u.t ∧ u.f = a ∧ u.t = b then bits .or .i64 x u.m else x) x) = (hit m x || (arcHit m l a b && decide (a ≠ b)))
  | [], x => by simp [arcHit]
  | u :: l, x => by
    rw [List.foldl_cons, hit_fold2 m a b l]
    simp only [arcHit, List.any_cons]
    by_cases h : u.f ≠ u.t ∧ u.f = a ∧ u.t = b
    · rw [if_pos h, hit_or]
      obtain ⟨h1, h2, h3⟩ := h
      have hab : decide (a ≠ b) = true := by rw [decide_eq_true_iff]; rw [← h2, ← h3]; exact h1
      simp [h2, h3, hab, Bool.or_assoc]
    · rw [if_neg h]
      by_cases h2 : u.f = a
      · by_cases h3 : u.t = b
        · have hab : a = b := by
            by_cases h1 : u.f = u.t
            · rw [← h2, ← h3]; exact h1
            · exact absurd ⟨h1, h2, h3⟩ h
          simp [hab]
        · simp [show (u.t == b) = false by simpa using h3]
      · simp [show (u.f == a) = false by simpa using h2]
theorem hit_orM2 (m : Int) (l : List ArcI) (a b : Int) : hit m (orM l a b) = (arcHit m l a b && decide (a ≠ b)) := by
  rw [orM, hit_fold2, hit_zero, Bool.false_or]
/-- The graph's masks are the document's. -/
theorem mask_same {n : Nat} {l s : List ArcI} (hl : ∀ a ∈ l, inR a.m) (hp : s.Perm (l.filter (fun a => !dropI a))) (hs : SortedOn s 0 s.length) (u w : Nat) : maskL (joinL s) u w = orM l u w := by
  have hsl : ∀ a ∈ s, inR a.m := fun a ha => hl a (List.mem_filter.1 (hp.mem_iff.1 ha)).1
  refine hit_eq ?_ (orM_inR hl _ _) (fun m => ?_)
  · unfold maskL
    cases h : (rowL (joinL s) u).find? (fun a => a.t == (w : Int)) with
    | none => show inR 0; unfold inR; rw [IntKind.wrap_i64]; decide
    | some a =>
      have := List.mem_of_find?_eq_some h
      exact joinL_inR hsl a (List.mem_of_mem_drop (List.mem_of_mem_take this))
  · unfold maskL
    rw [find_hit (rowL_rise hs u)]
    have hk := joinL_keys hs
    rw [List.pairwise_map] at hk
    have hpr : (joinL s).Pairwise (fun a b => a.f ≤ b.f) := hk.imp (fun h => by unfold ltK keyA at h; simp only at h; omega)
    rw [rowL_filter2 u _ hpr, List.any_filter]
    have e1 : (joinL s).any (fun a => decide (a.f = (u : Int)) && (a.t == (w : Int) && hit m a.m)) = arcHit m (joinL s) u w := by
      unfold arcHit
      congr 1
      funext a
      rw [Bool.and_assoc]
      rfl
    rw [e1, arcHit_graph hp, hit_orM2]
end Go.Proofs.Ytidpmbbkpclccaa
