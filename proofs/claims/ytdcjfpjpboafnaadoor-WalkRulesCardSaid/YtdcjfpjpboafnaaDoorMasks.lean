/- JoinRise, Masks, Warsh, ReachPure, in one text. -/
import Derived.Test.YtdcjfpjpboafnaaDoorGraph
import Derived.Test.YtdcjfpjpboafnaaDoorCloNew
import Derived.Test.YtdcjfpjpboafnaaDoorRefA
namespace Go.Proofs.YtdcjfpjpboafnaaDoor
set_option linter.all false
set_option maxRecDepth 100000

def keyA (a : ArcI) : Int × Int := (a.f, a.t)
def ltK (a b : Int × Int) : Prop := a.1 < b.1 ∨ (a.1 = b.1 ∧ a.2 < b.2)
theorem keys_joinS (acc : List ArcI) (u : ArcI) (h : ∀ x ∈ acc, leA x u) (hp : (acc.map keyA).Pairwise ltK) : ((joinS acc u).map keyA).Pairwise ltK := by
  by_cases h0 : 0 < acc.length
  · have hmem : acc.getD (acc.length - 1) default ∈ acc := by
      rw [List.getD_eq_getElem?_getD, List.getElem?_eq_getElem (by omega)]; exact List.getElem_mem _
    by_cases hs : standsI (acc.getD (acc.length - 1) default).f (acc.getD (acc.length - 1) default).t u.f u.t = 0
    · rw [joinS_eq h0 hs, List.map_set, set_same]
      · exact hp
      · rw [List.getElem?_map, List.getD_eq_getElem?_getD, List.getElem?_eq_getElem (by omega)]; rfl
    · rw [joinS_ne h0 hs, List.map_append, List.pairwise_append]
      refine ⟨hp, by simp, ?_⟩
      intro x hx y hy
      have hy' : y = keyA u := by simpa using hy
      subst hy'
      have hlast : ltK (keyA (acc.getD (acc.length - 1) default)) (keyA u) := by
        have h1 := h _ hmem
        have h2 := mt (standsI_zero _ _).2 hs
        generalize acc.getD (acc.length - 1) default = b at h1 h2
        unfold leA at h1
        simp only [ltK, keyA]
        omega
      rw [List.mem_iff_getElem] at hx
      obtain ⟨i, hi, rfl⟩ := hx
      rw [List.length_map] at hi
      by_cases e : i = acc.length - 1
      · subst e
        rw [List.getElem_map]
        have : acc.getD (acc.length - 1) default = acc[acc.length - 1] := by rw [List.getD_eq_getElem?_getD, List.getElem?_eq_getElem hi]; rfl
        rw [← this]; exact hlast
      · have h3 := (List.pairwise_iff_getElem.1 hp) i (acc.length - 1) (by simpa using hi) (by simp; omega) (by omega)
        rw [List.getElem_map, List.getElem_map] at h3
        rw [List.getElem_map]
        have : acc.getD (acc.length - 1) default = acc[acc.length - 1] := by rw [List.getD_eq_getElem?_getD, List.getElem?_eq_getElem (by omega)]; rfl
        rw [← this] at h3
        generalize keyA acc[i] = x1 at h3 ⊢
        generalize keyA (acc.getD (acc.length - 1) default) = x2 at h3 hlast
        generalize keyA u = x3 at hlast ⊢
        unfold ltK at *
        omega
  · have e : acc = [] := List.length_eq_zero_iff.1 (by omega)
    subst e
    simp [joinS]
theorem keys_join (l : List ArcI) : ∀ acc : List ArcI, (∀ x ∈ acc, ∀ y ∈ l, leA x y) → l.Pairwise leA → (acc.map keyA).Pairwise ltK → ((l.foldl joinS acc).map keyA).Pairwise ltK := by
  induction l with
  | nil => intro acc _ _ h; exact h
  | cons u l ih =>
    intro acc h hp ha
    rw [List.pairwise_cons] at hp
    refine ih (joinS acc u) ?_ hp.2 (keys_joinS acc u (fun x hx => h x hx u (List.mem_cons_self ..)) ha)
    intro x hx y hy
    rcases joinS_mem hx with ⟨b, hb, e1, e2⟩ | rfl
    · have := h b hb y (List.mem_cons_of_mem _ hy)
      unfold leA at this ⊢
      rw [← e1, ← e2]; exact this
    · exact hp.1 y hy
theorem sorted_pair {s : List ArcI} (h : SortedOn s 0 s.length) : s.Pairwise leA := by
  rw [List.pairwise_iff_getElem]
  intro i j hi hj hij
  have := h i j (Nat.zero_le _) hij hj
  rwa [List.getD_eq_getElem?_getD, List.getD_eq_getElem?_getD, List.getElem?_eq_getElem hi, List.getElem?_eq_getElem hj] at this
theorem joinL_keys {s : List ArcI} (h : SortedOn s 0 s.length) : ((joinL s).map keyA).Pairwise ltK :=
  keys_join s [] (fun x hx => by cases hx) (sorted_pair h) List.Pairwise.nil
theorem joinL_rise {s : List ArcI} (h : SortedOn s 0 s.length) : ∀ p q, p < q → q < (joinL s).length → ((joinL s).getD p default).f ≤ ((joinL s).getD q default).f := by
  intro p q hpq hq
  have h1 := (List.pairwise_iff_getElem.1 (joinL_keys h)) p q (by simp; omega) (by simpa using hq) hpq
  rw [List.getElem_map, List.getElem_map] at h1
  rw [List.getD_eq_getElem?_getD, List.getD_eq_getElem?_getD, List.getElem?_eq_getElem (by omega), List.getElem?_eq_getElem hq]
  simp only [ltK, keyA] at h1
  simp only [Option.getD_some]
  omega
/-- What was built is a graph. -/
theorem built_isG {W : Go.World} {g n ab c : Nat} {A : Option Go.Addr} {l s : List ArcI} (hn : n ≤ 1024) (hp : s.Perm (l.filter (fun a => !dropI a))) (hs : SortedOn s 0 s.length) (hall : l.any (badI n) = false) (h : GX W g n (joinL s) ab A c) :
    IsG W g n (joinL s) ab A c := ⟨hn, ⟨join_ends hp hall, joinL_rise hs⟩, h⟩
end Go.Proofs.YtdcjfpjpboafnaaDoor
namespace Go.Proofs.YtdcjfpjpboafnaaDoor
set_option linter.all false
open Go
set_option maxRecDepth 100000

def bv (x : Int) : BitVec 64 := BitVec.ofInt 64 x
/-- Has a mask a bit of another one? -/
def hit (m x : Int) : Bool := bits .and .i64 x m != 0
theorem bv_wrap (n : Int) : bv (IntKind.i64.wrap n) = bv n := by
  apply BitVec.eq_of_toNat_eq
  rw [bv, bv, BitVec.toNat_ofInt, BitVec.toNat_ofInt, IntKind.wrap_i64]
  congr 1
  omega
theorem bv_nat (v : BitVec 64) : bv (v.toNat : Int) = v := by
  apply BitVec.eq_of_toNat_eq
  rw [bv, BitVec.toNat_ofInt]
  have := v.isLt
  omega
theorem bv_or (x y : Int) : bv (bits .or .i64 x y) = bv x ||| bv y := by
  have h : bits .or .i64 x y = IntKind.i64.wrap ((bv x ||| bv y).toNat : Int) := rfl
  rw [h, bv_wrap, bv_nat]
theorem wrap_zero (v : BitVec 64) : IntKind.i64.wrap (v.toNat : Int) = 0 ↔ v = 0#64 := by
  rw [IntKind.wrap_i64]
  have := v.isLt
  constructor
  · intro h
    apply BitVec.eq_of_toNat_eq
    simp only [BitVec.toNat_ofNat]
    omega
  · rintro rfl
    simp only [BitVec.toNat_ofNat]
    omega
theorem hit_iff (m x : Int) : hit m x = true ↔ bv x &&& bv m ≠ 0#64 := by
  have h : bits .and .i64 x m = IntKind.i64.wrap ((bv x &&& bv m).toNat : Int) := rfl
  rw [hit, h, bne_iff_ne, ne_eq, wrap_zero]
theorem hit_or (m x y : Int) : hit m (bits .or .i64 x y) = (hit m x || hit m y) := by
  rw [Bool.eq_iff_iff, Bool.or_eq_true, hit_iff, hit_iff, hit_iff, bv_or]
  have e : (bv x ||| bv y) &&& bv m = (bv x &&& bv m) ||| (bv y &&& bv m) := by
    apply BitVec.eq_of_getLsbD_eq
    intro i _
    simp only [BitVec.getLsbD_and, BitVec.getLsbD_or]
    cases (bv x).getLsbD i <;> cases (bv y).getLsbD i <;> cases (bv m).getLsbD i <;> rfl
  rw [e, ne_eq, BitVec.or_eq_zero_iff]
  by_cases h1 : bv x &&& bv m = 0#64 <;> by_cases h2 : bv y &&& bv m = 0#64 <;> simp [h1, h2]
theorem hit_zero (m : Int) : hit m 0 = false := by
  cases h : hit m 0 with
  | false => rfl
  | true =>
    rw [hit_iff] at h
    exact absurd (by simp [bv]) h
/-- Is there an arc from one to another that has a bit of a mask? -/
def arcHit (m : Int) (l : List ArcI) (f t : Int) : Bool := l.any (fun a => a.f == f && a.t == t && hit m a.m)
theorem arcHit_joinS (m : Int) (acc : List ArcI) (u : ArcI) (f t : Int) : arcHit m (joinS acc u) f t = (arcHit m acc f t || arcHit m [u] f t) := by
  by_cases h0 : 0 < acc.length
  · by_cases hs : standsI (acc.getD (acc.length - 1) default).f (acc.getD (acc.length - 1) default).t u.f u.t = 0
    · rw [joinS_eq h0 hs]
      obtain ⟨k1, k2⟩ := (standsI_zero _ _).1 hs
      have hc : acc = acc.take (acc.length - 1) ++ [acc.getD (acc.length - 1) default] := by
        have := take_snoc_a acc (acc.length - 1) (by omega)
        rw [show acc.length - 1 + 1 = acc.length by omega, List.take_of_length_le (Nat.le_refl _)] at this
        exact this
      generalize acc.getD (acc.length - 1) default = b at k1 k2 hc ⊢
      have hl : (acc.take (acc.length - 1)).length = acc.length - 1 := by rw [List.length_take]; omega
      generalize acc.take (acc.length - 1) = pre at hc hl
      subst hc
      rw [← hl, List.set_append_right _ _ (Nat.le_refl _), Nat.sub_self]
      simp only [arcHit, List.set_cons_zero, List.any_append, List.any_cons, List.any_nil, Bool.or_false, hit_or, k1, k2]
      cases pre.any (fun a => a.f == f && a.t == t && hit m a.m) <;> cases (u.f == f && u.t == t) <;> cases hit m b.m <;> cases hit m u.m <;> rfl
    · rw [joinS_ne h0 hs]
      simp [arcHit]
  · have e : acc = [] := List.length_eq_zero_iff.1 (by omega)
    subst e
    simp [joinS, arcHit]
theorem arcHit_join (m : Int) (f t : Int) (l : List ArcI) : ∀ acc : List ArcI, arcHit m (l.foldl joinS acc) f t = (arcHit m acc f t || arcHit m l f t) := by
  induction l with
  | nil => intro acc; simp [arcHit]
  | cons u l ih =>
    intro acc
    rw [List.foldl_cons, ih, arcHit_joinS, Bool.or_assoc]
    congr 1
    simp [arcHit]
theorem arcHit_perm (m f t : Int) {a b : List ArcI} (h : a.Perm b) : arcHit m a f t = arcHit m b f t := by
  rw [Bool.eq_iff_iff, arcHit, arcHit, List.any_eq_true, List.any_eq_true]
  exact ⟨fun ⟨x, h1, h2⟩ => ⟨x, h.mem_iff.1 h1, h2⟩, fun ⟨x, h1, h2⟩ => ⟨x, h.mem_iff.2 h1, h2⟩⟩
theorem arcHit_filter (m f t : Int) (l : List ArcI) : arcHit m (l.filter (fun a => !dropI a)) f t = (arcHit m l f t && decide (f ≠ t)) := by
  rw [Bool.eq_iff_iff, Bool.and_eq_true, arcHit, arcHit, List.any_eq_true, List.any_eq_true, decide_eq_true_iff]
  constructor
  · rintro ⟨x, h1, h2⟩
    obtain ⟨h3, h4⟩ := List.mem_filter.1 h1
    refine ⟨⟨x, h3, h2⟩, ?_⟩
    simp only [dropI, Bool.not_eq_true', Bool.or_eq_false_iff, beq_eq_false_iff_ne] at h4
    simp only [Bool.and_eq_true, beq_iff_eq] at h2
    omega
  · rintro ⟨⟨x, h1, h2⟩, h3⟩
    refine ⟨x, List.mem_filter.2 ⟨h1, ?_⟩, h2⟩
    simp only [Bool.and_eq_true, beq_iff_eq] at h2
    simp only [dropI, Bool.not_eq_true', Bool.or_eq_false_iff, beq_eq_false_iff_ne]
    refine ⟨by omega, fun e => ?_⟩
    rw [e, hit_zero] at h2
    exact absurd h2.2 (by decide)
/-- THE GRAPH'S ARCS HAVE THE BITS OF THE ARCS THAT IT WAS MADE OF. -/
theorem arcHit_graph {l s : List ArcI} (hp : s.Perm (l.filter (fun a => !dropI a))) (m f t : Int) : arcHit m (joinL s) f t = (arcHit m l f t && decide (f ≠ t)) := by
  rw [joinL, arcHit_join, ← arcHit_filter, ← arcHit_perm m f t hp]
  simp [arcHit]
end Go.Proofs.YtdcjfpjpboafnaaDoor
namespace Go.Proofs.YtdcjfpjpboafnaaDoor
set_option linter.all false
set_option maxRecDepth 100000

/-- One arc at least leads from one to another. -/
inductive Reach (M : Nat → Nat → Bool) : Nat → Nat → Prop
  | one {a b} (h : M a b = true) : Reach M a b
  | more {a b c} (h : M a b = true) (t : Reach M b c) : Reach M a c
theorem Reach.trans {M : Nat → Nat → Bool} {a b c : Nat} (h : Reach M a b) (k : Reach M b c) : Reach M a c := by
  induction h with
  | one h => exact .more h k
  | more h _ ih => exact .more h (ih k)
theorem Reach.snoc {M : Nat → Nat → Bool} {a b c : Nat} (h : Reach M a b) (k : M b c = true) : Reach M a c := h.trans (.one k)
theorem stepM_iff (M : Nat → Nat → Bool) (b i x : Nat) : stepM M b i x = true ↔ M i x = true ∨ (M i b = true ∧ M b x = true) := by
  simp [stepM]
theorem warsh_sound (M : Nat → Nat → Bool) : ∀ (k a b : Nat), warsh M k a b = true → Reach M a b := by
  intro k
  induction k with
  | zero => intro a b h; exact .one h
  | succ k ih =>
    intro a b h
    rw [warsh, stepM_iff] at h
    rcases h with h | ⟨h1, h2⟩
    · exact ih a b h
    · exact (ih a k h1).trans (ih k b h2)
theorem warsh_mono (M : Nat → Nat → Bool) : ∀ (k a b : Nat), M a b = true → warsh M k a b = true := by
  intro k
  induction k with
  | zero => intro a b h; exact h
  | succ k ih => intro a b h; rw [warsh, stepM_iff]; exact .inl (ih a b h)
theorem warsh_via (M : Nat → Nat → Bool) : ∀ (k c a b : Nat), c < k → warsh M k a c = true → warsh M k c b = true → warsh M k a b = true := by
  intro k
  induction k with
  | zero => intro c a b h; omega
  | succ k ih =>
    intro c a b hc h1 h2
    rw [warsh, stepM_iff] at h1 h2 ⊢
    by_cases e : c = k
    · subst e
      have k1 : warsh M c a c = true := h1.elim id (fun h => h.1)
      have k2 : warsh M c c b = true := h2.elim id (fun h => h.2)
      exact .inr ⟨k1, k2⟩
    · have hck : c < k := by omega
      rcases h1 with h1 | ⟨h1, h1'⟩
      · rcases h2 with h2 | ⟨h2, h2'⟩
        · exact .inl (ih c a b hck h1 h2)
        · exact .inr ⟨ih c a k hck h1 h2, h2'⟩
      · rcases h2 with h2 | ⟨h2, h2'⟩
        · exact .inr ⟨h1, ih c k b hck h1' h2⟩
        · exact .inr ⟨h1, h2'⟩
theorem warsh_iff {M : Nat → Nat → Bool} {n : Nat} (hM : ∀ i x, M i x = true → x < n) (a b : Nat) : warsh M n a b = true ↔ Reach M a b := by
  refine ⟨warsh_sound M n a b, fun h => ?_⟩
  induction h with
  | one h => exact warsh_mono M n _ _ h
  | more h _ ih => exact warsh_via M n _ _ _ (hM _ _ h) (warsh_mono M n _ _ h) ih
theorem rowL_filter (v : Nat) : ∀ J : List ArcI, J.Pairwise (fun a b => a.f ≤ b.f) → rowL J v = J.filter (fun a => decide (a.f = (v : Int))) := by
  intro J
  induction J with
  | nil => intro _; rfl
  | cons a J ih =>
    intro hp
    rw [List.pairwise_cons] at hp
    have h1 := ih hp.2
    have hF : cntF (a :: J) v = (if a.f < (v : Int) then 1 else 0) + cntF J v := by
      simp only [cntF, List.filter_cons]
      by_cases e : a.f < (v : Int)
      · simp only [e, decide_true, if_true, List.length_cons]; omega
      · simp only [e, decide_false, if_false, Bool.false_eq_true]; omega
    have hC : cnt1 (a :: J) (v + 1) = (if a.f = (v : Int) then 1 else 0) + cnt1 J (v + 1) := by
      simp only [cnt1, List.filter_cons]
      by_cases e : a.f = (v : Int)
      · have e2 : a.f + 1 = ((v + 1 : Nat) : Int) := by omega
        rw [if_pos (decide_eq_true e2), if_pos e, List.length_cons]; omega
      · have e2 : ¬ a.f + 1 = ((v + 1 : Nat) : Int) := by omega
        rw [if_neg (by simpa using e2), if_neg e]; omega
    rcases Int.lt_trichotomy a.f (v : Int) with e | e | e
    · rw [rowL, hF, hC, if_pos e, if_neg (show ¬ a.f = (v : Int) by omega), Nat.zero_add, Nat.add_comm 1, List.drop_succ_cons, List.filter_cons, if_neg (by simp; omega), ← h1]
      rfl
    · have hz : cntF J v = 0 := by
        unfold cntF
        rw [List.length_eq_zero_iff, List.filter_eq_nil_iff]
        intro b hb; have := hp.1 b hb; simp; omega
      rw [rowL, hF, hC, if_neg (show ¬ a.f < (v : Int) by omega), if_pos e, Nat.zero_add, hz, List.drop_zero, Nat.add_comm 1, List.take_succ_cons, List.filter_cons, if_pos (by simpa using e), ← h1, rowL, hz, List.drop_zero]
    · have hz : cntF J v = 0 := by
        unfold cntF
        rw [List.length_eq_zero_iff, List.filter_eq_nil_iff]
        intro b hb; have := hp.1 b hb; simp; omega
      have hz1 : cnt1 J (v + 1) = 0 := by
        unfold cnt1
        rw [List.length_eq_zero_iff, List.filter_eq_nil_iff]
        intro b hb; have := hp.1 b hb; simp; omega
      rw [rowL, hF, hC, if_neg (show ¬ a.f < (v : Int) by omega), if_neg (show ¬ a.f = (v : Int) by omega), hz1, Nat.add_zero, List.take_zero, List.filter_cons, if_neg (by simp; omega), ← h1, rowL, hz1, List.take_zero]
theorem JOk.pair {n : Nat} {J : List ArcI} (h : JOk n J) : J.Pairwise (fun a b => a.f ≤ b.f) := by
  rw [List.pairwise_iff_getElem]
  intro i j hi hj hij
  have := h.rise i j hij hj
  rwa [List.getD_eq_getElem?_getD, List.getD_eq_getElem?_getD, List.getElem?_eq_getElem hi, List.getElem?_eq_getElem hj] at this
/-- A row of the graph's closing begins as its arcs say. -/
theorem rowM_iff {n : Nat} {J : List ArcI} (h : JOk n J) (m : Int) (i x : Nat) : rowM n J m i x = arcHit m J i x := by
  have hr := rowL_filter i J h.pair
  rw [Bool.eq_iff_iff, rowM, putP, Bool.false_or, Bool.and_eq_true, decide_eq_true_iff, decide_eq_true_iff, outL, hr, arcHit, List.any_eq_true, List.mem_map]
  constructor
  · rintro ⟨_, a, ha, e⟩
    obtain ⟨h1, h2⟩ := List.mem_filter.1 ha
    obtain ⟨h3, h4⟩ := List.mem_filter.1 h1
    refine ⟨a, h3, ?_⟩
    simp only [Bool.and_eq_true, beq_iff_eq]
    exact ⟨⟨by simpa using h4, e⟩, h2⟩
  · rintro ⟨a, ha, he⟩
    simp only [Bool.and_eq_true, beq_iff_eq] at he
    obtain ⟨⟨e1, e2⟩, e3⟩ := he
    have := h.ends a ha
    refine ⟨by omega, a, List.mem_filter.2 ⟨List.mem_filter.2 ⟨ha, by simpa using e1⟩, e3⟩, e2⟩
theorem rowM_lt {n : Nat} {J : List ArcI} (m : Int) (i x : Nat) (h : rowM n J m i x = true) : x < n := by
  rw [rowM, putP, Bool.false_or, Bool.and_eq_true, decide_eq_true_iff] at h
  exact h.1
end Go.Proofs.YtdcjfpjpboafnaaDoor
namespace Go.Proofs.YtdcjfpjpboafnaaDoor
set_option linter.all false
open Go.RowKit

/-- One step more. -/
def stepP (n : Nat) (E : Nat → Nat → Bool) (p : Nat → Bool) : Nat → Bool := fun w => p w || (List.range n).any (fun u => p u && E u w)
/-- So many steps. -/
def iterP (n : Nat) (E : Nat → Nat → Bool) (p : Nat → Bool) : Nat → Nat → Bool
  | 0 => p
  | k + 1 => stepP n E (iterP n E p k)
theorem stepP_iff {n : Nat} {E : Nat → Nat → Bool} {p : Nat → Bool} {w : Nat} : stepP n E p w = true ↔ p w = true ∨ ∃ u, u < n ∧ p u = true ∧ E u w = true := by
  simp only [stepP, Bool.or_eq_true, List.any_eq_true, List.mem_range, Bool.and_eq_true]
theorem iterP_mono {n : Nat} {E : Nat → Nat → Bool} {p : Nat → Bool} : ∀ k w, iterP n E p k w = true → iterP n E p (k + 1) w = true := fun k w h => stepP_iff.2 (.inl h)
theorem iterP_start {n : Nat} {E : Nat → Nat → Bool} {p : Nat → Bool} {w : Nat} (h : p w = true) : ∀ k, iterP n E p k w = true
  | 0 => h
  | k + 1 => iterP_mono k w (iterP_start h k)
theorem iterP_sound {n : Nat} {E : Nat → Nat → Bool} {p : Nat → Bool} : ∀ k w, iterP n E p k w = true → ∃ u, p u = true ∧ (u = w ∨ Reach E u w)
  | 0, w, h => ⟨w, h, .inl rfl⟩
  | k + 1, w, h => by
    rcases stepP_iff.1 h with h | ⟨v, _, h1, h2⟩
    · exact iterP_sound k w h
    · obtain ⟨u, hu, hr⟩ := iterP_sound k v h1
      refine ⟨u, hu, .inr ?_⟩
      rcases hr with rfl | hr
      · exact .one h2
      · exact hr.snoc h2
theorem filter_len_lt {l : List Nat} {p q : Nat → Bool} (h : ∀ x, p x = true → q x = true) {w : Nat} (hw : w ∈ l) (h1 : q w = true) (h2 : p w = false) : (l.filter p).length < (l.filter q).length := by
  induction l with
  | nil => cases hw
  | cons x xs ih =>
    have hle : (xs.filter p).length ≤ (xs.filter q).length := by
      clear ih hw
      induction xs with
      | nil => simp
      | cons y ys ih =>
        cases hp : p y with
        | true => rw [List.filter_cons_of_pos hp, List.filter_cons_of_pos (h y hp)]; simpa using ih
        | false =>
          rw [List.filter_cons_of_neg (by simp [hp])]
          cases hq : q y with
          | true => rw [List.filter_cons_of_pos hq]; simp; omega
          | false => rw [List.filter_cons_of_neg (by simp [hq])]; exact ih
    rcases List.mem_cons.1 hw with rfl | hw
    · rw [List.filter_cons_of_neg (by simp [h2]), List.filter_cons_of_pos h1]; simp; omega
    · have := ih hw
      cases hp : p x with
      | true => rw [List.filter_cons_of_pos hp, List.filter_cons_of_pos (h x hp)]; simpa using this
      | false =>
        rw [List.filter_cons_of_neg (by simp [hp])]
        cases hq : q x with
        | true => rw [List.filter_cons_of_pos hq]; simp; omega
        | false => rw [List.filter_cons_of_neg (by simp [hq])]; exact this
/-- Behind so many steps nothing is new. -/
theorem iterP_stop {n : Nat} {E : Nat → Nat → Bool} {p : Nat → Bool} (hp : ∀ w, p w = true → w < n) (hE : ∀ u w, E u w = true → w < n) : ∃ k, k ≤ n ∧ ∀ w, iterP n E p (k + 1) w = iterP n E p k w := by
  have hlt : ∀ k w, iterP n E p k w = true → w < n := by
    intro k
    induction k with
    | zero => exact hp
    | succ k ih =>
      intro w h
      rcases stepP_iff.1 h with h | ⟨u, _, _, h⟩
      · exact ih w h
      · exact hE u w h
  have key : ∀ m, (∃ k, k < m ∧ ∀ w, iterP n E p (k + 1) w = iterP n E p k w) ∨ m ≤ (elems n (iterP n E p m)).length := by
    intro m
    induction m with
    | zero => exact .inr (Nat.zero_le _)
    | succ m ih =>
      rcases ih with ⟨k, hk, h⟩ | ih
      · exact .inl ⟨k, by omega, h⟩
      · by_cases h : ∀ w, iterP n E p (m + 1) w = iterP n E p m w
        · exact .inl ⟨m, by omega, h⟩
        · right
          obtain ⟨w, hw⟩ := Classical.not_forall.1 h
          have h1 : iterP n E p (m + 1) w = true := by
            cases h' : iterP n E p (m + 1) w with
            | true => rfl
            | false =>
              cases h'' : iterP n E p m w with
              | true => rw [iterP_mono m w h''] at h'; cases h'
              | false => rw [h', h''] at hw; exact absurd rfl hw
          have h2 : iterP n E p m w = false := by
            cases h'' : iterP n E p m w with
            | false => rfl
            | true => rw [h1, h''] at hw; exact absurd rfl hw
          have := filter_len_lt (l := List.range n) (iterP_mono m) (List.mem_range.2 (hlt (m + 1) w h1)) h1 h2
          have : (elems n (iterP n E p m)).length < (elems n (iterP n E p (m + 1))).length := this
          omega
  rcases key (n + 1) with ⟨k, hk, h⟩ | h
  · exact ⟨k, by omega, h⟩
  · have : (elems n (iterP n E p (n + 1))).length ≤ n := Nat.le_trans (List.length_filter_le _ _) (by rw [List.length_range]; omega)
    omega
theorem iterP_same {n : Nat} {E : Nat → Nat → Bool} {p : Nat → Bool} {k : Nat} (h : ∀ w, iterP n E p (k + 1) w = iterP n E p k w) : ∀ d w, iterP n E p (k + d) w = iterP n E p k w
  | 0, _ => rfl
  | d + 1, w => by
    have e : iterP n E p (k + d) = iterP n E p k := funext (iterP_same h d)
    show stepP n E (iterP n E p (k + d)) w = _
    rw [e]
    exact h w
/-- All that is led to, of what it begins with. -/
theorem iterP_all {n : Nat} {E : Nat → Nat → Bool} {p : Nat → Bool} (hp : ∀ w, p w = true → w < n) (hE : ∀ u w, E u w = true → w < n) {k : Nat} (hk : n ≤ k) (w : Nat) :
    iterP n E p k w = true ↔ ∃ u, p u = true ∧ (u = w ∨ Reach E u w) := by
  refine ⟨iterP_sound k w, ?_⟩
  obtain ⟨s, hs, hst⟩ := iterP_stop hp hE
  have hfix : ∀ v, iterP n E p k v = iterP n E p s v := fun v => by
    have := iterP_same hst (k - s) v
    rwa [show s + (k - s) = k by omega] at this
  have hcl : ∀ u w, iterP n E p s u = true → E u w = true → iterP n E p s w = true := fun u w hu hE' => by
    rw [← hst w]
    refine stepP_iff.2 (.inr ⟨u, ?_, hu, hE'⟩)
    obtain ⟨u0, h0, hr⟩ := iterP_sound s u hu
    rcases hr with rfl | hr
    · exact hp _ h0
    · have : ∀ a b, Reach E a b → b < n := fun a b h => by
        induction h with
        | one h => exact hE _ _ h
        | more _ _ ih => exact ih
      exact this _ _ hr
  rintro ⟨u, hu, rfl | hr⟩
  · exact iterP_start hu k
  · rw [hfix]
    have hu' := iterP_start (n := n) (E := E) hu s
    have : ∀ a b, Reach E a b → iterP n E p s a = true → iterP n E p s b = true := fun a b h => by
      induction h with
      | one h => exact fun ha => hcl _ _ ha h
      | more h _ ih => exact fun ha => ih (hcl _ _ ha h)
    exact this _ _ hr hu'
end Go.Proofs.YtdcjfpjpboafnaaDoor
