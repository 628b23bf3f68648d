/- Sets of texts: how they are made. Printed by genstrs2.py out of Sets. -/
import Derived.Test.YtekigojbkhjdbaaSets
import Derived.Test.YtekigojbkhjdbaaTextPure
import Derived.Test.YtekigojbkhjdbaaAppStrs
namespace Go.Proofs.Ytekigojbkhjdbaa
set_option linter.all false
open Go.RowKit Go.Sort
set_option maxRecDepth 100000

theorem strsI_map (l : List Txt) : strsI l = l.map encStr := rfl
theorem cloneT_is {W : World} {A : Option Addr} {c : Nat} {l : List Txt} (h : StrsAt W A l) (hp : Plain A l.length c) (hsm : l.length ≤ 5000000) :
    Calls Try.prog 49 #[.slice A l.length c] W (Rets (SListPost W l)) := by
  have hfr : ∀ w', Below W.heap.size W w' → Fr0 W w' := by
    rintro w' ⟨k1, k2, k3, k4, k5⟩
    exact ⟨k1, k2, k3, k4, fun k hk _ => k5 k hk, fun k o ho hd => (k5 k (heap_lt ho)).trans ho⟩
  cases A with
  | none =>
    obtain ⟨e1, e2⟩ := hp rfl
    have e3 := List.length_eq_zero_iff.1 e1
    subst e3
    subst e2
    refine (Try.slices_Clone_string_nil 0 0 W).mono ?_
    rintro e w' ⟨rfl, rfl⟩
    exact ⟨_, rfl, Fr.refl _ _, own_nil _ _ _ _⟩
  | some a =>
    rcases h.2 with rfl | ⟨b, o, e, hc⟩
    · refine (Try.slices_Clone_string_zero a c W).mono ?_
      rintro e w' ⟨v', rfl, h1, _, h3⟩
      exact ⟨_, rfl, hfr _ h3, h1⟩
    · cases e
      refine (Try.slices_Clone_string b o l.length c (l.map fun t => ⟨t.toArray⟩) W (by simp) (by omega) (fun j hj => ?_)).mono ?_
      · have hj' : j < l.length := by simpa using hj
        rw [hc j hj']
        simp [List.getD_eq_getElem?_getD, List.getElem?_eq_getElem hj', encStr]
      · rintro e w' ⟨v', rfl, h1, _, h3⟩
        have e4 : ((l.map fun t : Txt => (⟨t.toArray⟩ : ByteArray)).take l.length).map Value.string = strsI l := by
          rw [List.take_of_length_le (by simp)]; simp [strsI]
        rw [e4] at h1
        exact ⟨_, rfl, hfr _ h3, h1⟩
/-- A row of one's own, written over, and grown beside. -/
theorem fr_sortedT {W : World} {B g c n q : Nat} {os : Array Obj} {l : List Txt} (d : Array Txt) (h : W.ownsRow B 9 1 (.slice (some ⟨g, 0, none⟩) n c) n (strsI l)) :
    Fr (fun k => (Value.slice (some ⟨g, 0, none⟩) n c).ownBlock = some k) W (grow (putRow encStr (Sort.ahead W q) g 0 d) os) :=
  append_fr0 h (grownBy_sorted d)
theorem sortT_is {W : World} {A : Option Addr} {B c : Nat} {l : List Txt} (h : W.ownsRow B 9 1 (.slice A l.length c) l.length (strsI l)) (hsm : l.length ≤ 10000000) :
    Calls Try.prog 50 #[.slice A l.length c] W fun e w' => e = .returned (.tuple #[]) ∧ Fr (fun k => (Value.slice A l.length c).ownBlock = some k) W w' ∧
      w'.ownsRow B 9 1 (.slice A l.length c) l.length (strsI (l.mergeSort fun x y => decide (x ≤ y))) := by
  rcases h.2 with ⟨e1, e2⟩ | ⟨g, cap, cur, e1, hg, hb, h1, h2, h3, h4⟩
  · obtain ⟨rfl, _, rfl⟩ : A = none ∧ l.length = 0 ∧ c = 0 := by simpa using e1
    have e3 := List.length_eq_zero_iff.1 e2
    subst e3
    refine (Try.slices_Sort_string_none none 0 W).mono ?_
    rintro e w' ⟨rfl, rfl⟩
    exact ⟨rfl, Fr.refl _ _, by simpa using h⟩
  · cases e1
    have hH := holds_of_block hb (by simpa [strsI] using h4)
    refine (Try.slices_Sort_string g 0 c l W hH (heap_lt hb) (by omega)).mono ?_
    rintro e w' ⟨rfl, nn, os, rfl⟩
    refine ⟨rfl, fr_sortedT _ h, ?_⟩
    have := ownsRow_sorted (n := nn) (os := os) (ss := l) (ts := l.mergeSort fun x y => decide (x ≤ y)) (by simp) hg hb h1 h2 h3
    simpa [strsI_map] using this
theorem compactT_is {W : World} {A : Option Addr} {B c : Nat} {l : List Txt} (h : W.ownsRow B 9 1 (.slice A l.length c) l.length (strsI l)) (hsm : l.length ≤ 10000000) :
    Calls Try.prog 51 #[.slice A l.length c] W fun e w' => e = .returned (.slice A (Lib.compact l).length c) ∧ Fr (fun k => (Value.slice A l.length c).ownBlock = some k) W w' ∧
      w'.ownsRow B 9 1 (.slice A (Lib.compact l).length c) (Lib.compact l).length (strsI (Lib.compact l)) := by
  rcases h.2 with ⟨e1, e2⟩ | ⟨g, cap, cur, e1, hg, hb, h1, h2, h3, h4⟩
  · obtain ⟨rfl, _, rfl⟩ : A = none ∧ l.length = 0 ∧ c = 0 := by simpa using e1
    have e3 := List.length_eq_zero_iff.1 e2
    subst e3
    refine (Try.slices_Compact_string_empty none 0 W).mono ?_
    rintro e w' ⟨rfl, rfl⟩
    exact ⟨rfl, Fr.refl _ _, own_nil _ _ _ _⟩
  · cases e1
    have hH := holds_of_block hb (by simpa [strsI] using h4)
    have hcl : (Lib.compact l).length ≤ l.length := Lib.compact_length_le l
    refine (Try.slices_Compact_string g 0 c l W hH (by omega) h1).mono ?_
    rintro e w' ⟨rfl, q, rfl⟩
    have e0 : ∀ x : World, grow x #[] = x := fun x => grow_empty x
    rw [← e0 (putRow _ _ _ _ _)]
    refine ⟨rfl, fr_sortedT _ h, ?_⟩
    have hlen : (Lib.compact l ++ List.replicate (l.length - (Lib.compact l).length) []).length = l.length := by simp; omega
    have := ownsRow_sorted (n := q) (os := #[]) (ss := l) (ts := Lib.compact l ++ List.replicate (l.length - (Lib.compact l).length) []) hlen hg hb h1 h2 h3
    have h5 := own_prefix this hcl
    have e6 : ((Lib.compact l ++ List.replicate (l.length - (Lib.compact l).length) []).map encStr).take (Lib.compact l).length = strsI (Lib.compact l) := by
      rw [← List.map_take, List.take_left]; rfl
    rw [e6] at h5
    exact h5
/-- The set of the rising list zs, as a slice that leads to it. -/
structure TSetAt (W : World) (A : Option Addr) (c : Nat) (zs : List Txt) : Prop where
  ints : StrsAt W A zs
  plain : Plain A zs.length c
  rise : zs.Pairwise (· < ·)
  small : zs.length ≤ 1000000
  cap : zs.length ≤ c
theorem TSetAt.fr0 {W W' : World} {A : Option Addr} {c : Nat} {zs : List Txt} (h : TSetAt W A c zs) (f : Fr0 W W') : TSetAt W' A c zs := ⟨h.ints.fr0 f, h.plain, h.rise, h.small, h.cap⟩
theorem StrsAt.fr {S : Nat → Prop} {W W' : World} {A : Option Addr} {zs : List Txt} (h : StrsAt W A zs) (f : Fr S W W') (hs : ∀ a, A = some a → ¬ S a.block) : StrsAt W' A zs := by
  refine ⟨h.1, h.2.imp id ?_⟩
  rintro ⟨b, o, e, hc⟩
  exact ⟨b, o, e, fun j hj => f.cell (hc j hj) (hs ⟨b, o, none⟩ e)⟩
theorem TSetAt.fr {S : Nat → Prop} {W W' : World} {A : Option Addr} {c : Nat} {zs : List Txt} (h : TSetAt W A c zs) (f : Fr S W W') (hs : ∀ a, A = some a → ¬ S a.block) : TSetAt W' A c zs := ⟨h.ints.fr f hs, h.plain, h.rise, h.small, h.cap⟩
def TSetPost (W : World) (zs : List Txt) (v : Value) (w' : World) : Prop := ∃ A c, v = setV A zs.length c ∧ Fr0 W w' ∧ TSetAt w' A c zs ∧ ∀ a, A = some a → W.heap.size ≤ a.block
theorem own_tset {W : World} {B c : Nat} {A : Option Addr} {l : List Txt} (h : W.ownsRow B 9 1 (.slice A l.length c) l.length (strsI l)) (hr : l.Pairwise (· < ·)) (hs : l.length ≤ 1000000) : TSetAt W A c l :=
  ⟨own_strs h (by omega), plain_own h, hr, hs, own_cap h⟩
set_option maxHeartbeats 1000000 in
theorem TOf_is {W : World} {A : Option Addr} {c : Nat} {l : List Txt} (h : StrsAt W A l) (hp : Plain A l.length c) (hsm : l.length ≤ 1000000) :
    Calls Try.prog 11 #[.slice A l.length c] W (Rets (TSetPost W (ofT l))) := by
  have hf0 : Fr0 W (W.alloc (.cells #[.slice none 0 0] 25)) := fr_alloc _ _ _
  have hb0 : Box (W.alloc (.cells #[.slice none 0 0] 25)) W.heap.size 25 (.slice none 0 0) := Box.new _ _ _
  have hs0 : (W.alloc (.cells #[.slice none 0 0] 25)).heap.size = W.heap.size + 1 := by simp
  generalize hw0 : W.alloc (.cells #[.slice none 0 0] 25) = w0 at hf0 hb0 hs0
  have HC := Lib.hid (cloneT_is (h.fr0 hf0) hp (by omega))
  have HW0 := Lib.hid hw0
  clear h
  go_enter Try.func11, Try.ntmps11
  go_wp2_with (first
    | (go_at_call 49; (try rw [hw0]); refine (HC.out).mono ?_; rintro e w1 ⟨v1, rfl, hf1, ho1⟩; obtain ⟨A1, c1, rfl⟩ := own_form ho1)
    | (go_at_call 50; refine (sortT_is ho1 (by omega)).mono ?_; rintro e w2 ⟨rfl, hf2, ho2⟩; have ho2' := ho2; rw [show l.length = (l.mergeSort fun x y => decide (x ≤ y)).length by simp] at ho2')
    | (go_at_call 51; have HK := compactT_is ho2' (by simp; omega); rw [show (l.mergeSort fun x y => decide (x ≤ y)).length = l.length by simp, compact_sortT] at HK; refine HK.mono ?_; rintro e w3 ⟨rfl, hf3, ho3⟩; have hb3 := ((hb0.fr0 hf1).fr hf2 (fun e => own_old ho1 (by omega) e)).fr hf3 (fun e => own_old ho1 (by omega) e); have hc3 := hb3.cell; have hz3 := hb3.frozen))
  have hbS := hb3.set (.slice A1 (ofT l).length c1)
  have hcS := hbS.cell
  have hFS : Fr (fun k => k = W.heap.size) w3 (w3.setCell ⟨W.heap.size, 0, none⟩ (.slice A1 (ofT l).length c1)) := fr_setCell _ _ _ (fun _ => rfl)
  refine bodyPost_ret (v := setV A1 (ofT l).length c1) ?_ rfl ?_
  · simp only [results, show Try.f11.results = #[ResultVar.cell 2 25] from rfl]
    go_simp
  · refine ⟨_, rfl, A1, c1, rfl, ?_, own_tset (own_fr ho3 hFS (fun b hb e => by subst e; exact own_old ho3 (by omega) hb)) (rise_ofT l) (Nat.le_trans (len_ofT l) hsm), fun a e => Nat.le_trans (by omega) (own_at ho3 a e)⟩
    have f1 : Fr0 W w1 := hf0.trans0 hf1
    have f2 : Fr0 W w2 := f1.trans hf2 (fun j hj e => own_old ho1 (by omega) e)
    have f3 : Fr0 W w3 := f2.trans hf3 (fun j hj e => own_old ho1 (by omega) e)
    exact f3.trans hFS (fun j hj e => by omega)
end Go.Proofs.Ytekigojbkhjdbaa
