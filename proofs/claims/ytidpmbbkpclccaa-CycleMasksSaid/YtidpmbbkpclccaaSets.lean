/- The library's clone, sort, compact and search at whole numbers, over one's own rows; the program's sets of whole numbers: how they are made, and what is read of them. -/
import Derived.Test.YtidpmbbkpclccaaShelf
import Derived.Test.YtidpmbbkpclccaaOf
import Derived.Test.YtidpmbbkpclccaaAppRow
import Derived.Test.YtidpmbbkpclccaaOrPure
import Derived.Sort.OwnSortedInts
namespace Go.Proofs.Ytidpmbbkpclccaa
set_option linter.all false
open Go.RowKit Go.Sort
set_option maxRecDepth 100000

theorem intsI_map (l : List Int) : intsI l = l.map (Value.int .i64) := rfl
/-- A slice's first elements alone. -/
theorem own_prefix {W : World} {B e n c k : Nat} {A : Option Addr} {xs : List Value} (h : W.ownsRow B e 1 (.slice A n c) n xs) (hk : k ≤ n) : W.ownsRow B e 1 (.slice A k c) k (xs.take k) := by
  refine ⟨by have := h.1; simp; omega, ?_⟩
  rcases h.2 with ⟨e1, e2⟩ | ⟨g, cap, cur, e1, hg, hb, h1, h2, h3, h4⟩
  · cases e1
    have : k = 0 := by omega
    subst this
    exact .inl ⟨rfl, rfl⟩
  · cases e1
    refine .inr ⟨g, _, cur, rfl, hg, hb, by omega, h2, h3, ?_⟩
    rw [← h4, List.take_take]
    congr 1
    omega
theorem clone_is {W : World} {A : Option Addr} {c : Nat} {l : List Int} (h : IntsAt W A l) (hp : Plain A l.length c) (hsm : l.length ≤ 10000000) :
    Calls Try.prog 47 #[.slice A l.length c] W (Rets (IListPost W l)) := by
  have hfr : ∀ w', Below W.heap.size W w' → Fr0 W w' := by
    rintro w' ⟨k1, k2, k3, k4, k5⟩
    exact ⟨k1, k2, k3, k4, fun k hk _ => k5 k hk, fun k o ho hd => (k5 k (heap_lt ho)).trans ho⟩
  cases A with
  | none =>
    obtain ⟨e1, e2⟩ := hp rfl
    have e3 := List.length_eq_zero_iff.1 e1
    subst e3
    subst e2
    refine (Try.slices_Clone_int_nil 0 0 W).mono ?_
    rintro e w' ⟨rfl, rfl⟩
    exact ⟨_, rfl, Fr.refl _ _, own_nil _ _ _ _⟩
  | some a =>
    rcases h.2 with rfl | ⟨b, o, e, hc⟩
    · refine (Try.slices_Clone_int_zero a c W).mono ?_
      rintro e w' ⟨v', rfl, h1, _, h3⟩
      exact ⟨_, rfl, hfr _ h3, h1⟩
    · cases e
      refine (Try.slices_Clone_int b o l.length c l W (Nat.le_refl _) (by omega) hc).mono ?_
      rintro e w' ⟨v', rfl, h1, _, h3⟩
      rw [List.take_length] at h1
      exact ⟨_, rfl, hfr _ h3, h1⟩
/-- A row of one's own, written over, and grown beside. -/
theorem fr_sorted {W : World} {B g c n q : Nat} {os : Array Obj} {l : List Int} (d : Array Int) (h : W.ownsRow B 3 1 (.slice (some ⟨g, 0, none⟩) n c) n (intsI l)) :
    Fr (fun k => (Value.slice (some ⟨g, 0, none⟩) n c).ownBlock = some k) W (grow (putRow (Value.int .i64) (Sort.ahead W q) g 0 d) os) :=
  append_fr0 h (grownBy_sortedI d)
theorem sort_is {W : World} {A : Option Addr} {B c : Nat} {l : List Int} (h : W.ownsRow B 3 1 (.slice A l.length c) l.length (intsI l)) (hsm : l.length ≤ 10000000) :
    Calls Try.prog 48 #[.slice A l.length c] W fun e w' => e = .returned (.tuple #[]) ∧ Fr (fun k => (Value.slice A l.length c).ownBlock = some k) W w' ∧
      w'.ownsRow B 3 1 (.slice A l.length c) l.length (intsI (l.mergeSort fun x y => decide (x ≤ y))) := by
  rcases h.2 with ⟨e1, e2⟩ | ⟨g, cap, cur, e1, hg, hb, h1, h2, h3, h4⟩
  · obtain ⟨rfl, _, rfl⟩ : A = none ∧ l.length = 0 ∧ c = 0 := by simpa using e1
    have e3 := List.length_eq_zero_iff.1 e2
    subst e3
    refine (Try.slices_Sort_int_none none 0 W).mono ?_
    rintro e w' ⟨rfl, rfl⟩
    exact ⟨rfl, Fr.refl _ _, by simpa using h⟩
  · cases e1
    have hH := holds_of_blockI hb (by simpa [intsI] using h4)
    refine (Try.slices_Sort_int g 0 c l W hH (heap_lt hb) (by omega)).mono ?_
    rintro e w' ⟨rfl, nn, os, rfl⟩
    refine ⟨rfl, fr_sorted _ h, ?_⟩
    have := ownsRow_sortedI (n := nn) (os := os) (ss := l) (ts := l.mergeSort fun x y => decide (x ≤ y)) (by simp) hg hb h1 h2 h3
    simpa [intsI_map] using this
theorem compact_is {W : World} {A : Option Addr} {B c : Nat} {l : List Int} (h : W.ownsRow B 3 1 (.slice A l.length c) l.length (intsI l)) (hsm : l.length ≤ 10000000) :
    Calls Try.prog 49 #[.slice A l.length c] W fun e w' => e = .returned (.slice A (Lib.compact l).length c) ∧ Fr (fun k => (Value.slice A l.length c).ownBlock = some k) W w' ∧
      w'.ownsRow B 3 1 (.slice A (Lib.compact l).length c) (Lib.compact l).length (intsI (Lib.compact l)) := by
  rcases h.2 with ⟨e1, e2⟩ | ⟨g, cap, cur, e1, hg, hb, h1, h2, h3, h4⟩
  · obtain ⟨rfl, _, rfl⟩ : A = none ∧ l.length = 0 ∧ c = 0 := by simpa using e1
    have e3 := List.length_eq_zero_iff.1 e2
    subst e3
    refine (Try.slices_Compact_int_empty none 0 W).mono ?_
    rintro e w' ⟨rfl, rfl⟩
    exact ⟨rfl, Fr.refl _ _, own_nil _ _ _ _⟩
  · cases e1
    have hH := holds_of_blockI hb (by simpa [intsI] using h4)
    have hcl : (Lib.compact l).length ≤ l.length := Lib.compact_length_le l
    refine (Try.slices_Compact_int g 0 c l W hH (by omega) h1).mono ?_
    rintro e w' ⟨rfl, q, rfl⟩
    have e0 : ∀ x : World, grow x #[] = x := fun x => grow_empty x
    rw [← e0 (putRow _ _ _ _ _)]
    refine ⟨rfl, fr_sorted _ h, ?_⟩
    have hlen : (Lib.compact l ++ List.replicate (l.length - (Lib.compact l).length) 0).length = l.length := by simp; omega
    have := ownsRow_sortedI (n := q) (os := #[]) (ss := l) (ts := Lib.compact l ++ List.replicate (l.length - (Lib.compact l).length) 0) hlen hg hb h1 h2 h3
    have h5 := own_prefix this hcl
    have e6 : ((Lib.compact l ++ List.replicate (l.length - (Lib.compact l).length) 0).map (Value.int .i64)).take (Lib.compact l).length = intsI (Lib.compact l) := by
      rw [← List.map_take, List.take_left]; rfl
    rw [e6] at h5
    exact h5

/-! ### Sets -/
/-- A set's value. -/
abbrev setV (A : Option Addr) (n c : Nat) : Value := .agg #[.slice A n c]
/-- The set of the rising list zs, as a slice that leads to it. -/
structure SetAt (W : World) (A : Option Addr) (c : Nat) (zs : List Int) : Prop where
  ints : IntsAt W A zs
  plain : Plain A zs.length c
  rise : zs.Pairwise (· < ·)
  small : zs.length ≤ 1000000
  cap : zs.length ≤ c
theorem SetAt.fr0 {W W' : World} {A : Option Addr} {c : Nat} {zs : List Int} (h : SetAt W A c zs) (f : Fr0 W W') : SetAt W' A c zs := ⟨h.ints.fr0 f, h.plain, h.rise, h.small, h.cap⟩
theorem IntsAt.fr {S : Nat → Prop} {W W' : World} {A : Option Addr} {zs : List Int} (h : IntsAt W A zs) (f : Fr S W W') (hs : ∀ a, A = some a → ¬ S a.block) : IntsAt W' A zs := by
  refine ⟨h.1, h.2.imp id ?_⟩
  rintro ⟨b, o, e, hc⟩
  exact ⟨b, o, e, fun j hj => f.cell (hc j hj) (hs ⟨b, o, none⟩ e)⟩
theorem SetAt.fr {S : Nat → Prop} {W W' : World} {A : Option Addr} {c : Nat} {zs : List Int} (h : SetAt W A c zs) (f : Fr S W W') (hs : ∀ a, A = some a → ¬ S a.block) : SetAt W' A c zs := ⟨h.ints.fr f hs, h.plain, h.rise, h.small, h.cap⟩
theorem own_at {W : World} {B e size n c : Nat} {A : Option Addr} {xs : List Value} (h : W.ownsRow B e size (.slice A n c) n xs) : ∀ a, A = some a → B ≤ a.block := by
  rintro a rfl
  rcases h.2 with ⟨e1, _⟩ | ⟨g, cap, cur, e1, hg, _⟩
  · cases e1
  · cases e1; exact hg
def SetPost (W : World) (zs : List Int) (v : Value) (w' : World) : Prop := ∃ A c, v = setV A zs.length c ∧ Fr0 W w' ∧ SetAt w' A c zs ∧ ∀ a, A = some a → W.heap.size ≤ a.block
theorem own_set {W : World} {B c : Nat} {A : Option Addr} {l : List Int} (h : W.ownsRow B 3 1 (.slice A l.length c) l.length (intsI l)) (hr : l.Pairwise (· < ·)) (hs : l.length ≤ 1000000) : SetAt W A c l :=
  ⟨own_intsI h (by omega), plain_own h, hr, hs, own_cap h⟩
set_option maxHeartbeats 1000000 in
theorem SOf_is {W : World} {A : Option Addr} {c : Nat} {l : List Int} (h : IntsAt W A l) (hp : Plain A l.length c) (hsm : l.length ≤ 1000000) :
    Calls Try.prog 30 #[.slice A l.length c] W (Rets (SetPost W (ofI l))) := by
  have hf0 : Fr0 W (W.alloc (.cells #[.slice none 0 0] 67)) := fr_alloc _ _ _
  have hb0 : Box (W.alloc (.cells #[.slice none 0 0] 67)) W.heap.size 67 (.slice none 0 0) := Box.new _ _ _
  have hs0 : (W.alloc (.cells #[.slice none 0 0] 67)).heap.size = W.heap.size + 1 := by simp
  generalize hw0 : W.alloc (.cells #[.slice none 0 0] 67) = w0 at hf0 hb0 hs0
  have HC := Lib.hid (clone_is (h.fr0 hf0) hp (by omega))
  have HW0 := Lib.hid hw0
  clear h
  go_enter Try.func30, Try.ntmps30
  go_wp2_with (first
    | (go_at_call 47; (try rw [hw0]); refine (HC.out).mono ?_; rintro e w1 ⟨v1, rfl, hf1, ho1⟩; obtain ⟨A1, c1, rfl⟩ := own_form ho1)
    | (go_at_call 48; refine (sort_is ho1 (by omega)).mono ?_; rintro e w2 ⟨rfl, hf2, ho2⟩; have ho2' := ho2; rw [show l.length = (l.mergeSort fun x y => decide (x ≤ y)).length by simp] at ho2')
    | (go_at_call 49; have HK := compact_is ho2' (by simp; omega); rw [show (l.mergeSort fun x y => decide (x ≤ y)).length = l.length by simp, compact_sortI] at HK; refine HK.mono ?_; rintro e w3 ⟨rfl, hf3, ho3⟩; have hb3 := ((hb0.fr0 hf1).fr hf2 (fun e => own_old ho1 (by omega) e)).fr hf3 (fun e => own_old ho1 (by omega) e); have hc3 := hb3.cell; have hz3 := hb3.frozen))
  have hbS := hb3.set (.slice A1 (ofI l).length c1)
  have hcS := hbS.cell
  have hFS : Fr (fun k => k = W.heap.size) w3 (w3.setCell ⟨W.heap.size, 0, none⟩ (.slice A1 (ofI l).length c1)) := fr_setCell _ _ _ (fun _ => rfl)
  refine bodyPost_ret (v := setV A1 (ofI l).length c1) ?_ rfl ?_
  · simp only [results, show Try.f30.results = #[ResultVar.cell 2 67] from rfl]
    go_simp
  · refine ⟨_, rfl, A1, c1, rfl, ?_, own_set (own_fr ho3 hFS (fun b hb e => by subst e; exact own_old ho3 (by omega) hb)) (rise_ofI l) (Nat.le_trans (len_ofI l) hsm), fun a e => Nat.le_trans (by omega) (own_at ho3 a e)⟩
    have f1 : Fr0 W w1 := hf0.trans0 hf1
    have f2 : Fr0 W w2 := f1.trans hf2 (fun j hj e => own_old ho1 (by omega) e)
    have f3 : Fr0 W w3 := f2.trans hf3 (fun j hj e => own_old ho1 (by omega) e)
    exact f3.trans hFS (fun j hj e => by omega)
end Go.Proofs.Ytidpmbbkpclccaa
