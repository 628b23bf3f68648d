/- Two rising lists, merged: pure, over any order. -/
import Derived.Test.YtidpmbbkpclccaaSortPure
namespace Go.Proofs.Ytidpmbbkpclccaa
set_option linter.all false
open Go.RowKit

/-- A strict order, as the laws on merging want it. -/
structure Lin {α : Type} (lt : α → α → Prop) : Prop where
  irr : ∀ a, ¬ lt a a
  tr : ∀ a b c, lt a b → lt b c → lt a c
theorem lin_int : Lin (fun a b : Int => a < b) := ⟨fun a => Int.lt_irrefl a, fun _ _ _ => Int.lt_trans⟩
section
variable {α : Type} {lt : α → α → Prop}
/-- Between two rounds: so much of both lists is merged. -/
structure MI (lt : α → α → Prop) (zs ts : List α) (i j : Nat) (out : List α) : Prop where
  rise : out.Pairwise lt
  mem : ∀ x, x ∈ out ↔ x ∈ zs.take i ∨ x ∈ ts.take j
  lo1 : ∀ x ∈ out, ∀ y ∈ zs.drop i, lt x y
  lo2 : ∀ x ∈ out, ∀ y ∈ ts.drop j, lt x y
theorem MI.zero (zs ts : List α) : MI lt zs ts 0 0 [] := ⟨.nil, by simp, by simp, by simp⟩
theorem drop_cons (zs : List α) {i : Nat} (hi : i < zs.length) : zs.drop i = zs[i] :: zs.drop (i + 1) := by rw [List.drop_eq_getElem_cons hi]
theorem take_snoc_g (zs : List α) {i : Nat} (hi : i < zs.length) : zs.take (i + 1) = zs.take i ++ [zs[i]] := by rw [List.take_succ_eq_append_getElem hi]
theorem rise_drop {zs : List α} (h : zs.Pairwise lt) {i : Nat} (hi : i < zs.length) : ∀ y ∈ zs.drop (i + 1), lt zs[i] y := by
  have h1 := h.sublist (List.drop_sublist i zs)
  rw [drop_cons zs hi] at h1
  exact (List.pairwise_cons.1 h1).1
theorem rise_snoc {out : List α} (h : out.Pairwise lt) {a : α} (ha : ∀ x ∈ out, lt x a) : (out ++ [a]).Pairwise lt := by
  rw [List.pairwise_append]
  exact ⟨h, by simp, fun x hx y hy => by rw [List.mem_singleton.1 hy]; exact ha x hx⟩
variable {zs ts out : List α} {i j : Nat}
theorem MI.left (hl : Lin lt) (h : MI lt zs ts i j out) (hz : zs.Pairwise lt) (ht : ts.Pairwise lt) (hi : i < zs.length) (hj : j < ts.length) (hlt : lt zs[i] ts[j]) : MI lt zs ts (i + 1) j (out ++ [zs[i]]) := by
  have hd := drop_cons zs hi
  have he := drop_cons ts hj
  refine ⟨rise_snoc h.rise (fun x hx => h.lo1 x hx _ (hd ▸ List.mem_cons_self ..)), fun x => ?_, ?_, ?_⟩
  · rw [List.mem_append, h.mem, take_snoc_g zs hi, List.mem_append, List.mem_singleton]
    constructor
    · rintro ((h | h) | h)
      · exact .inl (.inl h)
      · exact .inr h
      · exact .inl (.inr h)
    · rintro ((h | h) | h)
      · exact .inl (.inl h)
      · exact .inr h
      · exact .inl (.inr h)
  · intro x hx y hy
    rcases List.mem_append.1 hx with hx | hx
    · exact h.lo1 x hx y (by rw [hd]; exact List.mem_cons_of_mem _ hy)
    · rw [List.mem_singleton.1 hx]; exact rise_drop hz hi y hy
  · intro x hx y hy
    rcases List.mem_append.1 hx with hx | hx
    · exact h.lo2 x hx y hy
    · rw [List.mem_singleton.1 hx]
      rw [he] at hy
      rcases List.mem_cons.1 hy with rfl | hy
      · exact hlt
      · exact hl.tr _ _ _ hlt (rise_drop ht hj y hy)
theorem MI.swap (h : MI lt zs ts i j out) : MI lt ts zs j i out := ⟨h.rise, fun x => (h.mem x).trans Or.comm, h.lo2, h.lo1⟩
theorem MI.right (hl : Lin lt) (h : MI lt zs ts i j out) (hz : zs.Pairwise lt) (ht : ts.Pairwise lt) (hi : i < zs.length) (hj : j < ts.length) (hlt : lt ts[j] zs[i]) : MI lt zs ts i (j + 1) (out ++ [ts[j]]) :=
  (h.swap.left hl ht hz hj hi hlt).swap
theorem MI.both (h : MI lt zs ts i j out) (hz : zs.Pairwise lt) (ht : ts.Pairwise lt) (hi : i < zs.length) (hj : j < ts.length) (he : zs[i] = ts[j]) : MI lt zs ts (i + 1) (j + 1) (out ++ [zs[i]]) := by
  have hd := drop_cons zs hi
  have hd2 := drop_cons ts hj
  refine ⟨rise_snoc h.rise (fun x hx => h.lo1 x hx _ (hd ▸ List.mem_cons_self ..)), fun x => ?_, ?_, ?_⟩
  · rw [List.mem_append, h.mem, take_snoc_g zs hi, take_snoc_g ts hj, List.mem_append, List.mem_append, ← he, List.mem_singleton]
    constructor
    · rintro ((h | h) | h)
      · exact .inl (.inl h)
      · exact .inr (.inl h)
      · exact .inl (.inr h)
    · rintro ((h | h) | (h | h))
      · exact .inl (.inl h)
      · exact .inr h
      · exact .inl (.inr h)
      · exact .inr h
  · intro x hx y hy
    rcases List.mem_append.1 hx with hx | hx
    · exact h.lo1 x hx y (by rw [hd]; exact List.mem_cons_of_mem _ hy)
    · rw [List.mem_singleton.1 hx]; exact rise_drop hz hi y hy
  · intro x hx y hy
    rcases List.mem_append.1 hx with hx | hx
    · exact h.lo2 x hx y (by rw [hd2]; exact List.mem_cons_of_mem _ hy)
    · rw [List.mem_singleton.1 hx, he]; exact rise_drop ht hj y hy
/-- One list is merged whole: the other one's rest follows. -/
theorem MI.done (h : MI lt zs ts i j out) (hz : zs.Pairwise lt) (ht : ts.Pairwise lt) (he : zs.length ≤ i ∨ ts.length ≤ j) :
    (out ++ zs.drop i ++ ts.drop j).Pairwise lt ∧ ∀ x, x ∈ out ++ zs.drop i ++ ts.drop j ↔ x ∈ zs ∨ x ∈ ts := by
  have hm : ∀ x, x ∈ out ++ zs.drop i ++ ts.drop j ↔ x ∈ zs ∨ x ∈ ts := by
    intro x
    have h1 : x ∈ zs ↔ x ∈ zs.take i ∨ x ∈ zs.drop i := by rw [← List.mem_append, List.take_append_drop]
    have h2 : x ∈ ts ↔ x ∈ ts.take j ∨ x ∈ ts.drop j := by rw [← List.mem_append, List.take_append_drop]
    rw [List.mem_append, List.mem_append, h.mem, h1, h2]
    constructor
    · rintro (((h | h) | h) | h)
      · exact .inl (.inl h)
      · exact .inr (.inl h)
      · exact .inl (.inr h)
      · exact .inr (.inr h)
    · rintro ((h | h) | (h | h))
      · exact .inl (.inl (.inl h))
      · exact .inl (.inr h)
      · exact .inl (.inl (.inr h))
      · exact .inr h
  refine ⟨?_, hm⟩
  have k1 : (out ++ zs.drop i).Pairwise lt := List.pairwise_append.2 ⟨h.rise, hz.sublist (List.drop_sublist _ _), h.lo1⟩
  have k2 : (out ++ ts.drop j).Pairwise lt := List.pairwise_append.2 ⟨h.rise, ht.sublist (List.drop_sublist _ _), h.lo2⟩
  rcases he with he | he
  · rw [List.drop_eq_nil_of_le he, List.append_nil]; exact k2
  · rw [List.drop_eq_nil_of_le he, List.append_nil]; exact k1
end
end Go.Proofs.Ytidpmbbkpclccaa
