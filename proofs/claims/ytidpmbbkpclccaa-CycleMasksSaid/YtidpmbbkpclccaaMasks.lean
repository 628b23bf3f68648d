/- Masks: bits of what is joined. -/
import Derived.Test.YtidpmbbkpclccaaJoinRise
namespace Go.Proofs.Ytidpmbbkpclccaa
set_option linter.all false
open Go
set_option maxRecDepth 100000

def bv (x : Int) : BitVec 64 := BitVec.ofInt 64 x
/-- Has a mask a bit of another one? -/
def hit (m x : Int) : Bool := bits .and .i64 x m != 0
theorem bv_wrap (n : Int) : bv (IntKind.i64.wrap n) = bv n := by
  apply BitVec.eq_of_toNat_eq
  rw [bv, bv, BitVec.toNat_ofInt, BitVec.toNat_ofInt, IntKind.wrap_i64]
  congr 1
  omega
theorem bv_nat (v : BitVec 64) : bv (v.toNat : Int) = v := by
  apply BitVec.eq_of_toNat_eq
  rw [bv, BitVec.toNat_ofInt]
  have := v.isLt
  omega
theorem bv_or (x y : Int) : bv (bits .or .i64 x y) = bv x ||| bv y := by
  have h : bits .or .i64 x y = IntKind.i64.wrap ((bv x ||| bv y).toNat : Int) := rfl
  rw [h, bv_wrap, bv_nat]
theorem wrap_zero (v : BitVec 64) : IntKind.i64.wrap (v.toNat : Int) = 0 ↔ v = 0#64 := by
  rw [IntKind.wrap_i64]
  have := v.isLt
  constructor
  · intro h
    apply BitVec.eq_of_toNat_eq
    simp only [BitVec.toNat_ofNat]
    omega
  · rintro rfl
    simp only [BitVec.toNat_ofNat]
    omega
theorem hit_iff (m x : Int) : hit m x = true ↔ bv x &&& bv m ≠ 0#64 := by
  have h : bits .and .i64 x m = IntKind.i64.wrap ((bv x &&& bv m).toNat : Int) := rfl
  rw [hit, h, bne_iff_ne, ne_eq, wrap_zero]
theorem hit_or (m x y : Int) : hit m (bits .or .i64 x y) = (hit m x || hit m y) := by
  rw [Bool.eq_iff_iff, Bool.or_eq_true, hit_iff, hit_iff, hit_iff, bv_or]
  have e : (bv x ||| bv y) &&& bv m = (bv x &&& bv m) ||| (bv y &&& bv m) := by
    apply BitVec.eq_of_getLsbD_eq
    intro i _
    simp only [BitVec.getLsbD_and, BitVec.getLsbD_or]
    cases (bv x).getLsbD i <;> cases (bv y).getLsbD i <;> cases (bv m).getLsbD i <;> rfl
  rw [e, ne_eq, BitVec.or_eq_zero_iff]
  by_cases h1 : bv x &&& bv m = 0#64 <;> by_cases h2 : bv y &&& bv m = 0#64 <;> simp [h1, h2]
theorem hit_zero (m : Int) : hit m 0 = false := by
  cases h : hit m 0 with
  | false => rfl
  | true =>
    rw [hit_iff] at h
    exact absurd (by simp [bv]) h
/-- Is there an arc from one to another that has a bit of a mask? -/
def arcHit (m : Int) (l : List ArcI) (f t : Int) : Bool := l.any (fun a => a.f == f && a.t == t && hit m a.m)
theorem arcHit_joinS (m : Int) (acc : List ArcI) (u : ArcI) (f t : Int) : arcHit m (joinS acc u) f t = (arcHit m acc f t || arcHit m [u] f t) := by
  by_cases h0 : 0 < acc.length
  · by_cases hs : standsI (acc.getD (acc.length - 1) default).f (acc.getD (acc.length - 1) default).t u.f u.t = 0
    · rw [joinS_eq h0 hs]
      obtain ⟨k1, k2⟩ := (standsI_zero _ _).1 hs
      have hc : acc = acc.take (acc.length - 1) ++ [acc.getD (acc.length - 1) default] := by
        have := take_snoc_a acc (acc.length - 1) (by omega)
        rw [show acc.length - 1 + 1 = acc.length by omega, List.take_of_length_le (Nat.le_refl _)] at this
        exact this
      generalize acc.getD (acc.length - 1) default = b at k1 k2 hc ⊢
      have hl : (acc.take (acc.length - 1)).length = acc.length - 1 := by rw [List.length_take]; omega
      generalize acc.take (acc.length - 1) = pre at hc hl
      subst hc
      rw [← hl, List.set_append_right _ _ (Nat.le_refl _), Nat.sub_self]
      simp only [arcHit, List.set_cons_zero, List.any_append, List.any_cons, List.any_nil, Bool.or_false, hit_or, k1, k2]
      cases pre.any (fun a => a.f == f && a.t == t && hit m a.m) <;> cases (u.f == f && u.t == t) <;> cases hit m b.m <;> cases hit m u.m <;> rfl
    · rw [joinS_ne h0 hs]
      simp [arcHit]
  · have e : acc = [] := List.length_eq_zero_iff.1 (by omega)
    subst e
    simp [joinS, arcHit]
theorem arcHit_join (m : Int) (f t : Int) (l : List ArcI) : ∀ acc : List ArcI, arcHit m (l.foldl joinS acc) f t = (arcHit m acc f t || arcHit m l f t) := by
  induction l with
  | nil => intro acc; simp [arcHit]
  | cons u l ih =>
    intro acc
    rw [List.foldl_cons, ih, arcHit_joinS, Bool.or_assoc]
    congr 1
    simp [arcHit]
theorem arcHit_perm (m f t : Int) {a b : List ArcI} (h : a.Perm b) : arcHit m a f t = arcHit m b f t := by
  rw [Bool.eq_iff_iff, arcHit, arcHit, List.any_eq_true, List.any_eq_true]
  exact ⟨fun ⟨x, h1, h2⟩ => ⟨x, h.mem_iff.1 h1, h2⟩, fun ⟨x, h1, h2⟩ => ⟨x, h.mem_iff.2 h1, h2⟩⟩
theorem arcHit_filter (m f t : Int) (l : List ArcI) : arcHit m (l.filter (fun a => !dropI a)) f t = (arcHit m l f t && decide (f ≠ t)) := by
  rw [Bool.eq_iff_iff, Bool.and_eq_true, arcHit, arcHit, List.any_eq_true, List.any_eq_true, decide_eq_true_iff]
  constructor
  · rintro ⟨x, h1, h2⟩
    obtain ⟨h3, h4⟩ := List.mem_filter.1 h1
    refine ⟨⟨x, h3, h2⟩, ?_⟩
    simp only [dropI, Bool.not_eq_true', Bool.or_eq_false_iff, beq_eq_false_iff_ne] at h4
    simp only [Bool.and_eq_true, beq_iff_eq] at h2
    omega
  · rintro ⟨⟨x, h1, h2⟩, h3⟩
    refine ⟨x, List.mem_filter.2 ⟨h1, ?_⟩, h2⟩
    simp only [Bool.and_eq_true, beq_iff_eq] at h2
    simp only [dropI, Bool.not_eq_true', Bool.or_eq_false_iff, beq_eq_false_iff_ne]
    refine ⟨by omega, fun e => ?_⟩
    rw [e, hit_zero] at h2
    exact absurd h2.2 (by decide)
/-- THE GRAPH'S ARCS HAVE THE BITS OF THE ARCS THAT IT WAS MADE OF. -/
theorem arcHit_graph {l s : List ArcI} (hp : s.Perm (l.filter (fun a => !dropI a))) (m f t : Int) : arcHit m (joinL s) f t = (arcHit m l f t && decide (f ≠ t)) := by
  rw [joinL, arcHit_join, ← arcHit_filter, ← arcHit_perm m f t hp]
  simp [arcHit]
end Go.Proofs.Ytidpmbbkpclccaa
