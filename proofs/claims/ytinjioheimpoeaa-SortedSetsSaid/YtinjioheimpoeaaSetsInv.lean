/- SortedSets: four calls beside four allocs, in whatever order: what holds meanwhile. -/
import Derived.Test.YtinjioheimpoeaaWorks05
import Derived.Test.YtinjioheimpoeaaInv
namespace Go.Proofs.Ytinjioheimpoeaa
set_option linter.all false
open Go.RowKit
set_option maxRecDepth 100000
def IsS (w : World) (u : Value) (l : List Int) : Prop := ∃ A c, u = setV A l.length c ∧ SetAt w A c l
def IsP (b : Nat) (w : World) (u : Value) : Prop := ∃ k, u = .pointer (some ⟨k, 0, none⟩) ∧ b ≤ k ∧ Box w k 25 (.slice none 0 0)
theorem IsS.fr0 {w w' : World} {u : Value} {l : List Int} (h : IsS w u l) (f : Fr0 w w') : IsS w' u l := by obtain ⟨A, c, e, h⟩ := h; exact ⟨A, c, e, h.fr0 f⟩
theorem IsP.fr0 {b : Nat} {w w' : World} {u : Value} (h : IsP b w u) (f : Fr0 w w') : IsP b w' u := by obtain ⟨k, e, hk, h⟩ := h; exact ⟨k, e, hk, h.fr0 f⟩
theorem IsP.new {b : Nat} {w : World} (hb : b ≤ w.heap.size) : IsP b (w.alloc (.cells #[.slice none 0 0] 25)) (.pointer (some ⟨w.heap.size, 0, none⟩)) := ⟨_, rfl, hb, Box.new _ _ _⟩
theorem IsP.ne {b : Nat} {w : World} {u : Value} (h : IsP b w u) : u ≠ .pointer (some ⟨w.heap.size, 0, none⟩) := by
  obtain ⟨k, e, _, h⟩ := h
  rw [e]
  intro e2
  have := h.lt
  injection e2 with e2
  injection e2 with e2
  injection e2 with e2
  omega
theorem SetAt.off_box2 {W W' : World} {A X : Option Addr} {zs : List Int} {b t n c d : Nat} (h : SetAt W A d zs) (hb : Box W b t (.slice X n c)) (f : Fr (fun k => k = b) W W') : SetAt W' A d zs := by
  refine ⟨⟨h.ints.1, h.ints.2.imp id ?_⟩, h.plain, h.rise, h.small, h.cap⟩
  rintro ⟨q, o, e, hc⟩
  refine ⟨q, o, e, fun j hj => f.cell (hc j hj) (fun e2 => ?_)⟩
  have := hc j hj
  simp only at e2
  subst e2
  unfold Box at hb
  simp only [World.cell?, hb] at this
  by_cases h0 : o + j = 0
  · simp [h0] at this
  · rw [show (#[Value.slice X n c])[o + j]? = none by simp; omega] at this
    cases this
theorem SameI_is {W : World} {B B' c d : Nat} {A A' : Option Addr} {l : List Int} (h : W.ownsRow B 3 1 (.slice A l.length c) l.length (intsI l)) (h2 : W.ownsRow B' 3 1 (.slice A' l.length d) l.length (intsI l)) (hlen : l.length ≤ 140737488355328) :
    Calls Try.prog 20 #[.slice A l.length c, .slice A' l.length d] W (Rets (SamePost true W)) := by
  have := Same_is (c := c) (d := d) (own_intsI h hlen) (own_intsI h2 hlen)
  rwa [show decide (l = l) = true by simp] at this
/-- All that has come up holds what it should. -/
structure C4 (wr : World) (V1 V2 VB : Value) (ls1 ls2 ls3 ls4 : List Int) (c0 c1 c2 c3 c4 c5 c6 c7 c8 c9 c10 c11 c12 c13 c14 c15 : Bool) (u9 u10 u11 u12 u26 u27 u28 u29 u30 u31 u32 u33 u34 u35 u36 u37 : Value) (w : World) : Prop where
  fr : Fr0 wr w
  k0 : c0 = true → u26 = V1
  k1 : c1 = true → u27 = V2
  k3 : c3 = true → u29 = V1
  k4 : c4 = true → u30 = V2
  k6 : c6 = true → u32 = V1
  k7 : c7 = true → u33 = V2
  k9 : c9 = true → u35 = V1
  k10 : c10 = true → u36 = VB
  k2 : c2 = true → IsS w u28 ls1
  k5 : c5 = true → IsS w u31 ls2
  k8 : c8 = true → IsS w u34 ls3
  k11 : c11 = true → IsS w u37 ls4
  k12 : c12 = true → IsP wr.heap.size w u9
  k13 : c13 = true → IsP wr.heap.size w u10
  k14 : c14 = true → IsP wr.heap.size w u11
  k15 : c15 = true → IsP wr.heap.size w u12
  d12_13 : c12 = true → c13 = true → u9 ≠ u10
  d12_14 : c12 = true → c14 = true → u9 ≠ u11
  d12_15 : c12 = true → c15 = true → u9 ≠ u12
  d13_14 : c13 = true → c14 = true → u10 ≠ u11
  d13_15 : c13 = true → c15 = true → u10 ≠ u12
  d14_15 : c14 = true → c15 = true → u11 ≠ u12
  o2 : c2 = true → c0 = true ∧ c1 = true
  o5 : c5 = true → c3 = true ∧ c4 = true ∧ c2 = true
  o8 : c8 = true → c6 = true ∧ c7 = true ∧ c5 = true
  o11 : c11 = true → c9 = true ∧ c10 = true ∧ c8 = true
def I4 (wr : World) (V1 V2 VB : Value) (ls1 ls2 ls3 ls4 : List Int) (s0 s1 s2 s3 s4 s5 s6 s7 s8 s13 s14 s15 s16 s17 s18 s19 s20 s21 s22 s23 s24 s25 : Value) (L : Array Bool) (a : Act) (w : World) : Prop :=
  ∃ (c0 c1 c2 c3 c4 c5 c6 c7 c8 c9 c10 c11 c12 c13 c14 c15 : Bool) (u9 u10 u11 u12 u26 u27 u28 u29 u30 u31 u32 u33 u34 u35 u36 u37 : Value), L = #[c0, c1, c2, c3, c4, c5, c6, c7, c8, c9, c10, c11, c12, c13, c14, c15, false, false, false, false] ∧ a = { tmps := List.toArray (s0 :: s1 :: s2 :: s3 :: s4 :: s5 :: s6 :: s7 :: s8 :: u9 :: u10 :: u11 :: u12 :: s13 :: s14 :: s15 :: s16 :: s17 :: s18 :: s19 :: s20 :: s21 :: s22 :: s23 :: s24 :: s25 :: u26 :: u27 :: u28 :: u29 :: u30 :: u31 :: u32 :: u33 :: u34 :: u35 :: u36 :: u37 :: undef :: undef :: undef :: undef :: undef :: undef :: undef :: undef :: undef :: undef :: undef :: undef :: undef :: undef :: undef :: undef :: undef :: undef :: undef :: undef :: undef :: undef :: undef :: undef :: undef :: undef :: undef :: undef :: undef :: undef :: undef :: undef :: undef :: undef :: undef :: undef :: undef :: undef :: undef :: undef :: undef :: undef :: undef :: undef :: undef :: undef :: undef :: undef :: undef :: undef :: undef :: undef :: undef :: undef :: undef :: undef :: undef :: undef :: undef :: undef :: undef :: undef :: undef :: undef :: undef :: []), defers := [] } ∧ C4 wr V1 V2 VB ls1 ls2 ls3 ls4 c0 c1 c2 c3 c4 c5 c6 c7 c8 c9 c10 c11 c12 c13 c14 c15 u9 u10 u11 u12 u26 u27 u28 u29 u30 u31 u32 u33 u34 u35 u36 u37 w
def stop4 (L : Array Bool) : Bool := L.getD 0 false && L.getD 1 false && L.getD 2 false && L.getD 3 false && L.getD 4 false && L.getD 5 false && L.getD 6 false && L.getD 7 false && L.getD 8 false && L.getD 9 false && L.getD 10 false && L.getD 11 false && L.getD 12 false && L.getD 13 false && L.getD 14 false && L.getD 15 false
theorem C4.load0 {wr w : World} {V1 V2 VB : Value} {ls1 ls2 ls3 ls4 : List Int} {c0 c1 c2 c3 c4 c5 c6 c7 c8 c9 c10 c11 c12 c13 c14 c15 : Bool} {u9 u10 u11 u12 u26 u27 u28 u29 u30 u31 u32 u33 u34 u35 u36 u37 : Value} (h : C4 wr V1 V2 VB ls1 ls2 ls3 ls4 c0 c1 c2 c3 c4 c5 c6 c7 c8 c9 c10 c11 c12 c13 c14 c15 u9 u10 u11 u12 u26 u27 u28 u29 u30 u31 u32 u33 u34 u35 u36 u37 w)  :
    C4 wr V1 V2 VB ls1 ls2 ls3 ls4 true c1 c2 c3 c4 c5 c6 c7 c8 c9 c10 c11 c12 c13 c14 c15 u9 u10 u11 u12 V1 u27 u28 u29 u30 u31 u32 u33 u34 u35 u36 u37 w where
  fr := h.fr
  k0 := fun _ => rfl
  k1 := h.k1
  k2 := h.k2
  k3 := h.k3
  k4 := h.k4
  k5 := h.k5
  k6 := h.k6
  k7 := h.k7
  k8 := h.k8
  k9 := h.k9
  k10 := h.k10
  k11 := h.k11
  k12 := h.k12
  k13 := h.k13
  k14 := h.k14
  k15 := h.k15
  d12_13 := h.d12_13
  d12_14 := h.d12_14
  d12_15 := h.d12_15
  d13_14 := h.d13_14
  d13_15 := h.d13_15
  d14_15 := h.d14_15
  o2 := fun e => ⟨rfl, (h.o2 e).2⟩
  o5 := h.o5
  o8 := h.o8
  o11 := h.o11
theorem C4.load1 {wr w : World} {V1 V2 VB : Value} {ls1 ls2 ls3 ls4 : List Int} {c0 c1 c2 c3 c4 c5 c6 c7 c8 c9 c10 c11 c12 c13 c14 c15 : Bool} {u9 u10 u11 u12 u26 u27 u28 u29 u30 u31 u32 u33 u34 u35 u36 u37 : Value} (h : C4 wr V1 V2 VB ls1 ls2 ls3 ls4 c0 c1 c2 c3 c4 c5 c6 c7 c8 c9 c10 c11 c12 c13 c14 c15 u9 u10 u11 u12 u26 u27 u28 u29 u30 u31 u32 u33 u34 u35 u36 u37 w)  :
    C4 wr V1 V2 VB ls1 ls2 ls3 ls4 c0 true c2 c3 c4 c5 c6 c7 c8 c9 c10 c11 c12 c13 c14 c15 u9 u10 u11 u12 u26 V2 u28 u29 u30 u31 u32 u33 u34 u35 u36 u37 w where
  fr := h.fr
  k0 := h.k0
  k1 := fun _ => rfl
  k2 := h.k2
  k3 := h.k3
  k4 := h.k4
  k5 := h.k5
  k6 := h.k6
  k7 := h.k7
  k8 := h.k8
  k9 := h.k9
  k10 := h.k10
  k11 := h.k11
  k12 := h.k12
  k13 := h.k13
  k14 := h.k14
  k15 := h.k15
  d12_13 := h.d12_13
  d12_14 := h.d12_14
  d12_15 := h.d12_15
  d13_14 := h.d13_14
  d13_15 := h.d13_15
  d14_15 := h.d14_15
  o2 := fun e => ⟨(h.o2 e).1, rfl⟩
  o5 := h.o5
  o8 := h.o8
  o11 := h.o11
theorem C4.load3 {wr w : World} {V1 V2 VB : Value} {ls1 ls2 ls3 ls4 : List Int} {c0 c1 c2 c3 c4 c5 c6 c7 c8 c9 c10 c11 c12 c13 c14 c15 : Bool} {u9 u10 u11 u12 u26 u27 u28 u29 u30 u31 u32 u33 u34 u35 u36 u37 : Value} (h : C4 wr V1 V2 VB ls1 ls2 ls3 ls4 c0 c1 c2 c3 c4 c5 c6 c7 c8 c9 c10 c11 c12 c13 c14 c15 u9 u10 u11 u12 u26 u27 u28 u29 u30 u31 u32 u33 u34 u35 u36 u37 w)  :
    C4 wr V1 V2 VB ls1 ls2 ls3 ls4 c0 c1 c2 true c4 c5 c6 c7 c8 c9 c10 c11 c12 c13 c14 c15 u9 u10 u11 u12 u26 u27 u28 V1 u30 u31 u32 u33 u34 u35 u36 u37 w where
  fr := h.fr
  k0 := h.k0
  k1 := h.k1
  k2 := h.k2
  k3 := fun _ => rfl
  k4 := h.k4
  k5 := h.k5
  k6 := h.k6
  k7 := h.k7
  k8 := h.k8
  k9 := h.k9
  k10 := h.k10
  k11 := h.k11
  k12 := h.k12
  k13 := h.k13
  k14 := h.k14
  k15 := h.k15
  d12_13 := h.d12_13
  d12_14 := h.d12_14
  d12_15 := h.d12_15
  d13_14 := h.d13_14
  d13_15 := h.d13_15
  d14_15 := h.d14_15
  o2 := h.o2
  o5 := fun e => ⟨rfl, (h.o5 e).2.1, (h.o5 e).2.2⟩
  o8 := h.o8
  o11 := h.o11
theorem C4.load4 {wr w : World} {V1 V2 VB : Value} {ls1 ls2 ls3 ls4 : List Int} {c0 c1 c2 c3 c4 c5 c6 c7 c8 c9 c10 c11 c12 c13 c14 c15 : Bool} {u9 u10 u11 u12 u26 u27 u28 u29 u30 u31 u32 u33 u34 u35 u36 u37 : Value} (h : C4 wr V1 V2 VB ls1 ls2 ls3 ls4 c0 c1 c2 c3 c4 c5 c6 c7 c8 c9 c10 c11 c12 c13 c14 c15 u9 u10 u11 u12 u26 u27 u28 u29 u30 u31 u32 u33 u34 u35 u36 u37 w)  :
    C4 wr V1 V2 VB ls1 ls2 ls3 ls4 c0 c1 c2 c3 true c5 c6 c7 c8 c9 c10 c11 c12 c13 c14 c15 u9 u10 u11 u12 u26 u27 u28 u29 V2 u31 u32 u33 u34 u35 u36 u37 w where
  fr := h.fr
  k0 := h.k0
  k1 := h.k1
  k2 := h.k2
  k3 := h.k3
  k4 := fun _ => rfl
  k5 := h.k5
  k6 := h.k6
  k7 := h.k7
  k8 := h.k8
  k9 := h.k9
  k10 := h.k10
  k11 := h.k11
  k12 := h.k12
  k13 := h.k13
  k14 := h.k14
  k15 := h.k15
  d12_13 := h.d12_13
  d12_14 := h.d12_14
  d12_15 := h.d12_15
  d13_14 := h.d13_14
  d13_15 := h.d13_15
  d14_15 := h.d14_15
  o2 := h.o2
  o5 := fun e => ⟨(h.o5 e).1, rfl, (h.o5 e).2.2⟩
  o8 := h.o8
  o11 := h.o11
theorem C4.load6 {wr w : World} {V1 V2 VB : Value} {ls1 ls2 ls3 ls4 : List Int} {c0 c1 c2 c3 c4 c5 c6 c7 c8 c9 c10 c11 c12 c13 c14 c15 : Bool} {u9 u10 u11 u12 u26 u27 u28 u29 u30 u31 u32 u33 u34 u35 u36 u37 : Value} (h : C4 wr V1 V2 VB ls1 ls2 ls3 ls4 c0 c1 c2 c3 c4 c5 c6 c7 c8 c9 c10 c11 c12 c13 c14 c15 u9 u10 u11 u12 u26 u27 u28 u29 u30 u31 u32 u33 u34 u35 u36 u37 w)  :
    C4 wr V1 V2 VB ls1 ls2 ls3 ls4 c0 c1 c2 c3 c4 c5 true c7 c8 c9 c10 c11 c12 c13 c14 c15 u9 u10 u11 u12 u26 u27 u28 u29 u30 u31 V1 u33 u34 u35 u36 u37 w where
  fr := h.fr
  k0 := h.k0
  k1 := h.k1
  k2 := h.k2
  k3 := h.k3
  k4 := h.k4
  k5 := h.k5
  k6 := fun _ => rfl
  k7 := h.k7
  k8 := h.k8
  k9 := h.k9
  k10 := h.k10
  k11 := h.k11
  k12 := h.k12
  k13 := h.k13
  k14 := h.k14
  k15 := h.k15
  d12_13 := h.d12_13
  d12_14 := h.d12_14
  d12_15 := h.d12_15
  d13_14 := h.d13_14
  d13_15 := h.d13_15
  d14_15 := h.d14_15
  o2 := h.o2
  o5 := h.o5
  o8 := fun e => ⟨rfl, (h.o8 e).2.1, (h.o8 e).2.2⟩
  o11 := h.o11
theorem C4.load7 {wr w : World} {V1 V2 VB : Value} {ls1 ls2 ls3 ls4 : List Int} {c0 c1 c2 c3 c4 c5 c6 c7 c8 c9 c10 c11 c12 c13 c14 c15 : Bool} {u9 u10 u11 u12 u26 u27 u28 u29 u30 u31 u32 u33 u34 u35 u36 u37 : Value} (h : C4 wr V1 V2 VB ls1 ls2 ls3 ls4 c0 c1 c2 c3 c4 c5 c6 c7 c8 c9 c10 c11 c12 c13 c14 c15 u9 u10 u11 u12 u26 u27 u28 u29 u30 u31 u32 u33 u34 u35 u36 u37 w)  :
    C4 wr V1 V2 VB ls1 ls2 ls3 ls4 c0 c1 c2 c3 c4 c5 c6 true c8 c9 c10 c11 c12 c13 c14 c15 u9 u10 u11 u12 u26 u27 u28 u29 u30 u31 u32 V2 u34 u35 u36 u37 w where
  fr := h.fr
  k0 := h.k0
  k1 := h.k1
  k2 := h.k2
  k3 := h.k3
  k4 := h.k4
  k5 := h.k5
  k6 := h.k6
  k7 := fun _ => rfl
  k8 := h.k8
  k9 := h.k9
  k10 := h.k10
  k11 := h.k11
  k12 := h.k12
  k13 := h.k13
  k14 := h.k14
  k15 := h.k15
  d12_13 := h.d12_13
  d12_14 := h.d12_14
  d12_15 := h.d12_15
  d13_14 := h.d13_14
  d13_15 := h.d13_15
  d14_15 := h.d14_15
  o2 := h.o2
  o5 := h.o5
  o8 := fun e => ⟨(h.o8 e).1, rfl, (h.o8 e).2.2⟩
  o11 := h.o11
theorem C4.load9 {wr w : World} {V1 V2 VB : Value} {ls1 ls2 ls3 ls4 : List Int} {c0 c1 c2 c3 c4 c5 c6 c7 c8 c9 c10 c11 c12 c13 c14 c15 : Bool} {u9 u10 u11 u12 u26 u27 u28 u29 u30 u31 u32 u33 u34 u35 u36 u37 : Value} (h : C4 wr V1 V2 VB ls1 ls2 ls3 ls4 c0 c1 c2 c3 c4 c5 c6 c7 c8 c9 c10 c11 c12 c13 c14 c15 u9 u10 u11 u12 u26 u27 u28 u29 u30 u31 u32 u33 u34 u35 u36 u37 w)  :
    C4 wr V1 V2 VB ls1 ls2 ls3 ls4 c0 c1 c2 c3 c4 c5 c6 c7 c8 true c10 c11 c12 c13 c14 c15 u9 u10 u11 u12 u26 u27 u28 u29 u30 u31 u32 u33 u34 V1 u36 u37 w where
  fr := h.fr
  k0 := h.k0
  k1 := h.k1
  k2 := h.k2
  k3 := h.k3
  k4 := h.k4
  k5 := h.k5
  k6 := h.k6
  k7 := h.k7
  k8 := h.k8
  k9 := fun _ => rfl
  k10 := h.k10
  k11 := h.k11
  k12 := h.k12
  k13 := h.k13
  k14 := h.k14
  k15 := h.k15
  d12_13 := h.d12_13
  d12_14 := h.d12_14
  d12_15 := h.d12_15
  d13_14 := h.d13_14
  d13_15 := h.d13_15
  d14_15 := h.d14_15
  o2 := h.o2
  o5 := h.o5
  o8 := h.o8
  o11 := fun e => ⟨rfl, (h.o11 e).2.1, (h.o11 e).2.2⟩
theorem C4.load10 {wr w : World} {V1 V2 VB : Value} {ls1 ls2 ls3 ls4 : List Int} {c0 c1 c2 c3 c4 c5 c6 c7 c8 c9 c10 c11 c12 c13 c14 c15 : Bool} {u9 u10 u11 u12 u26 u27 u28 u29 u30 u31 u32 u33 u34 u35 u36 u37 : Value} (h : C4 wr V1 V2 VB ls1 ls2 ls3 ls4 c0 c1 c2 c3 c4 c5 c6 c7 c8 c9 c10 c11 c12 c13 c14 c15 u9 u10 u11 u12 u26 u27 u28 u29 u30 u31 u32 u33 u34 u35 u36 u37 w)  :
    C4 wr V1 V2 VB ls1 ls2 ls3 ls4 c0 c1 c2 c3 c4 c5 c6 c7 c8 c9 true c11 c12 c13 c14 c15 u9 u10 u11 u12 u26 u27 u28 u29 u30 u31 u32 u33 u34 u35 VB u37 w where
  fr := h.fr
  k0 := h.k0
  k1 := h.k1
  k2 := h.k2
  k3 := h.k3
  k4 := h.k4
  k5 := h.k5
  k6 := h.k6
  k7 := h.k7
  k8 := h.k8
  k9 := h.k9
  k10 := fun _ => rfl
  k11 := h.k11
  k12 := h.k12
  k13 := h.k13
  k14 := h.k14
  k15 := h.k15
  d12_13 := h.d12_13
  d12_14 := h.d12_14
  d12_15 := h.d12_15
  d13_14 := h.d13_14
  d13_15 := h.d13_15
  d14_15 := h.d14_15
  o2 := h.o2
  o5 := h.o5
  o8 := h.o8
  o11 := fun e => ⟨(h.o11 e).1, rfl, (h.o11 e).2.2⟩
theorem C4.call2 {wr w w2 : World} {V1 V2 VB : Value} {ls1 ls2 ls3 ls4 : List Int} {c0 c1 c2 c3 c4 c5 c6 c7 c8 c9 c10 c11 c12 c13 c14 c15 : Bool} {u9 u10 u11 u12 u26 u27 u28 u29 u30 u31 u32 u33 u34 u35 u36 u37 : Value} {v : Value} (h : C4 wr V1 V2 VB ls1 ls2 ls3 ls4 c0 c1 c2 c3 c4 c5 c6 c7 c8 c9 c10 c11 c12 c13 c14 c15 u9 u10 u11 u12 u26 u27 u28 u29 u30 u31 u32 u33 u34 u35 u36 u37 w) (hf : Fr0 w w2) (hs : IsS w2 v ls1) (ho : c0 = true ∧ c1 = true) :
    C4 wr V1 V2 VB ls1 ls2 ls3 ls4 c0 c1 true c3 c4 c5 c6 c7 c8 c9 c10 c11 c12 c13 c14 c15 u9 u10 u11 u12 u26 u27 v u29 u30 u31 u32 u33 u34 u35 u36 u37 w2 where
  fr := (h.fr.trans0 hf)
  k0 := h.k0
  k1 := h.k1
  k2 := fun _ => hs
  k3 := h.k3
  k4 := h.k4
  k5 := fun e => (h.k5 e).fr0 hf
  k6 := h.k6
  k7 := h.k7
  k8 := fun e => (h.k8 e).fr0 hf
  k9 := h.k9
  k10 := h.k10
  k11 := fun e => (h.k11 e).fr0 hf
  k12 := fun e => (h.k12 e).fr0 hf
  k13 := fun e => (h.k13 e).fr0 hf
  k14 := fun e => (h.k14 e).fr0 hf
  k15 := fun e => (h.k15 e).fr0 hf
  d12_13 := h.d12_13
  d12_14 := h.d12_14
  d12_15 := h.d12_15
  d13_14 := h.d13_14
  d13_15 := h.d13_15
  d14_15 := h.d14_15
  o2 := fun _ => ho
  o5 := fun e => ⟨(h.o5 e).1, (h.o5 e).2.1, rfl⟩
  o8 := h.o8
  o11 := h.o11
theorem C4.call5 {wr w w2 : World} {V1 V2 VB : Value} {ls1 ls2 ls3 ls4 : List Int} {c0 c1 c2 c3 c4 c5 c6 c7 c8 c9 c10 c11 c12 c13 c14 c15 : Bool} {u9 u10 u11 u12 u26 u27 u28 u29 u30 u31 u32 u33 u34 u35 u36 u37 : Value} {v : Value} (h : C4 wr V1 V2 VB ls1 ls2 ls3 ls4 c0 c1 c2 c3 c4 c5 c6 c7 c8 c9 c10 c11 c12 c13 c14 c15 u9 u10 u11 u12 u26 u27 u28 u29 u30 u31 u32 u33 u34 u35 u36 u37 w) (hf : Fr0 w w2) (hs : IsS w2 v ls2) (ho : c3 = true ∧ c4 = true ∧ c2 = true) :
    C4 wr V1 V2 VB ls1 ls2 ls3 ls4 c0 c1 c2 c3 c4 true c6 c7 c8 c9 c10 c11 c12 c13 c14 c15 u9 u10 u11 u12 u26 u27 u28 u29 u30 v u32 u33 u34 u35 u36 u37 w2 where
  fr := (h.fr.trans0 hf)
  k0 := h.k0
  k1 := h.k1
  k2 := fun e => (h.k2 e).fr0 hf
  k3 := h.k3
  k4 := h.k4
  k5 := fun _ => hs
  k6 := h.k6
  k7 := h.k7
  k8 := fun e => (h.k8 e).fr0 hf
  k9 := h.k9
  k10 := h.k10
  k11 := fun e => (h.k11 e).fr0 hf
  k12 := fun e => (h.k12 e).fr0 hf
  k13 := fun e => (h.k13 e).fr0 hf
  k14 := fun e => (h.k14 e).fr0 hf
  k15 := fun e => (h.k15 e).fr0 hf
  d12_13 := h.d12_13
  d12_14 := h.d12_14
  d12_15 := h.d12_15
  d13_14 := h.d13_14
  d13_15 := h.d13_15
  d14_15 := h.d14_15
  o2 := h.o2
  o5 := fun _ => ho
  o8 := fun e => ⟨(h.o8 e).1, (h.o8 e).2.1, rfl⟩
  o11 := h.o11
theorem C4.call8 {wr w w2 : World} {V1 V2 VB : Value} {ls1 ls2 ls3 ls4 : List Int} {c0 c1 c2 c3 c4 c5 c6 c7 c8 c9 c10 c11 c12 c13 c14 c15 : Bool} {u9 u10 u11 u12 u26 u27 u28 u29 u30 u31 u32 u33 u34 u35 u36 u37 : Value} {v : Value} (h : C4 wr V1 V2 VB ls1 ls2 ls3 ls4 c0 c1 c2 c3 c4 c5 c6 c7 c8 c9 c10 c11 c12 c13 c14 c15 u9 u10 u11 u12 u26 u27 u28 u29 u30 u31 u32 u33 u34 u35 u36 u37 w) (hf : Fr0 w w2) (hs : IsS w2 v ls3) (ho : c6 = true ∧ c7 = true ∧ c5 = true) :
    C4 wr V1 V2 VB ls1 ls2 ls3 ls4 c0 c1 c2 c3 c4 c5 c6 c7 true c9 c10 c11 c12 c13 c14 c15 u9 u10 u11 u12 u26 u27 u28 u29 u30 u31 u32 u33 v u35 u36 u37 w2 where
  fr := (h.fr.trans0 hf)
  k0 := h.k0
  k1 := h.k1
  k2 := fun e => (h.k2 e).fr0 hf
  k3 := h.k3
  k4 := h.k4
  k5 := fun e => (h.k5 e).fr0 hf
  k6 := h.k6
  k7 := h.k7
  k8 := fun _ => hs
  k9 := h.k9
  k10 := h.k10
  k11 := fun e => (h.k11 e).fr0 hf
  k12 := fun e => (h.k12 e).fr0 hf
  k13 := fun e => (h.k13 e).fr0 hf
  k14 := fun e => (h.k14 e).fr0 hf
  k15 := fun e => (h.k15 e).fr0 hf
  d12_13 := h.d12_13
  d12_14 := h.d12_14
  d12_15 := h.d12_15
  d13_14 := h.d13_14
  d13_15 := h.d13_15
  d14_15 := h.d14_15
  o2 := h.o2
  o5 := h.o5
  o8 := fun _ => ho
  o11 := fun e => ⟨(h.o11 e).1, (h.o11 e).2.1, rfl⟩
theorem C4.call11 {wr w w2 : World} {V1 V2 VB : Value} {ls1 ls2 ls3 ls4 : List Int} {c0 c1 c2 c3 c4 c5 c6 c7 c8 c9 c10 c11 c12 c13 c14 c15 : Bool} {u9 u10 u11 u12 u26 u27 u28 u29 u30 u31 u32 u33 u34 u35 u36 u37 : Value} {v : Value} (h : C4 wr V1 V2 VB ls1 ls2 ls3 ls4 c0 c1 c2 c3 c4 c5 c6 c7 c8 c9 c10 c11 c12 c13 c14 c15 u9 u10 u11 u12 u26 u27 u28 u29 u30 u31 u32 u33 u34 u35 u36 u37 w) (hf : Fr0 w w2) (hs : IsS w2 v ls4) (ho : c9 = true ∧ c10 = true ∧ c8 = true) :
    C4 wr V1 V2 VB ls1 ls2 ls3 ls4 c0 c1 c2 c3 c4 c5 c6 c7 c8 c9 c10 true c12 c13 c14 c15 u9 u10 u11 u12 u26 u27 u28 u29 u30 u31 u32 u33 u34 u35 u36 v w2 where
  fr := (h.fr.trans0 hf)
  k0 := h.k0
  k1 := h.k1
  k2 := fun e => (h.k2 e).fr0 hf
  k3 := h.k3
  k4 := h.k4
  k5 := fun e => (h.k5 e).fr0 hf
  k6 := h.k6
  k7 := h.k7
  k8 := fun e => (h.k8 e).fr0 hf
  k9 := h.k9
  k10 := h.k10
  k11 := fun _ => hs
  k12 := fun e => (h.k12 e).fr0 hf
  k13 := fun e => (h.k13 e).fr0 hf
  k14 := fun e => (h.k14 e).fr0 hf
  k15 := fun e => (h.k15 e).fr0 hf
  d12_13 := h.d12_13
  d12_14 := h.d12_14
  d12_15 := h.d12_15
  d13_14 := h.d13_14
  d13_15 := h.d13_15
  d14_15 := h.d14_15
  o2 := h.o2
  o5 := h.o5
  o8 := h.o8
  o11 := fun _ => ho
theorem C4.alloc12 {wr w : World} {V1 V2 VB : Value} {ls1 ls2 ls3 ls4 : List Int} {c0 c1 c2 c3 c4 c5 c6 c7 c8 c9 c10 c11 c12 c13 c14 c15 : Bool} {u9 u10 u11 u12 u26 u27 u28 u29 u30 u31 u32 u33 u34 u35 u36 u37 : Value} (h : C4 wr V1 V2 VB ls1 ls2 ls3 ls4 c0 c1 c2 c3 c4 c5 c6 c7 c8 c9 c10 c11 c12 c13 c14 c15 u9 u10 u11 u12 u26 u27 u28 u29 u30 u31 u32 u33 u34 u35 u36 u37 w)  :
    C4 wr V1 V2 VB ls1 ls2 ls3 ls4 c0 c1 c2 c3 c4 c5 c6 c7 c8 c9 c10 c11 true c13 c14 c15 (.pointer (some ⟨w.heap.size, 0, none⟩)) u10 u11 u12 u26 u27 u28 u29 u30 u31 u32 u33 u34 u35 u36 u37 (w.alloc (.cells #[.slice none 0 0] 25)) where
  fr := (h.fr.trans0 (fr_alloc _ _ _))
  k0 := h.k0
  k1 := h.k1
  k2 := fun e => (h.k2 e).fr0 (fr_alloc _ _ _)
  k3 := h.k3
  k4 := h.k4
  k5 := fun e => (h.k5 e).fr0 (fr_alloc _ _ _)
  k6 := h.k6
  k7 := h.k7
  k8 := fun e => (h.k8 e).fr0 (fr_alloc _ _ _)
  k9 := h.k9
  k10 := h.k10
  k11 := fun e => (h.k11 e).fr0 (fr_alloc _ _ _)
  k12 := fun _ => IsP.new h.fr.size
  k13 := fun e => (h.k13 e).fr0 (fr_alloc _ _ _)
  k14 := fun e => (h.k14 e).fr0 (fr_alloc _ _ _)
  k15 := fun e => (h.k15 e).fr0 (fr_alloc _ _ _)
  d12_13 := fun _ e => (h.k13 e).ne.symm
  d12_14 := fun _ e => (h.k14 e).ne.symm
  d12_15 := fun _ e => (h.k15 e).ne.symm
  d13_14 := h.d13_14
  d13_15 := h.d13_15
  d14_15 := h.d14_15
  o2 := h.o2
  o5 := h.o5
  o8 := h.o8
  o11 := h.o11
theorem C4.alloc13 {wr w : World} {V1 V2 VB : Value} {ls1 ls2 ls3 ls4 : List Int} {c0 c1 c2 c3 c4 c5 c6 c7 c8 c9 c10 c11 c12 c13 c14 c15 : Bool} {u9 u10 u11 u12 u26 u27 u28 u29 u30 u31 u32 u33 u34 u35 u36 u37 : Value} (h : C4 wr V1 V2 VB ls1 ls2 ls3 ls4 c0 c1 c2 c3 c4 c5 c6 c7 c8 c9 c10 c11 c12 c13 c14 c15 u9 u10 u11 u12 u26 u27 u28 u29 u30 u31 u32 u33 u34 u35 u36 u37 w)  :
    C4 wr V1 V2 VB ls1 ls2 ls3 ls4 c0 c1 c2 c3 c4 c5 c6 c7 c8 c9 c10 c11 c12 true c14 c15 u9 (.pointer (some ⟨w.heap.size, 0, none⟩)) u11 u12 u26 u27 u28 u29 u30 u31 u32 u33 u34 u35 u36 u37 (w.alloc (.cells #[.slice none 0 0] 25)) where
  fr := (h.fr.trans0 (fr_alloc _ _ _))
  k0 := h.k0
  k1 := h.k1
  k2 := fun e => (h.k2 e).fr0 (fr_alloc _ _ _)
  k3 := h.k3
  k4 := h.k4
  k5 := fun e => (h.k5 e).fr0 (fr_alloc _ _ _)
  k6 := h.k6
  k7 := h.k7
  k8 := fun e => (h.k8 e).fr0 (fr_alloc _ _ _)
  k9 := h.k9
  k10 := h.k10
  k11 := fun e => (h.k11 e).fr0 (fr_alloc _ _ _)
  k12 := fun e => (h.k12 e).fr0 (fr_alloc _ _ _)
  k13 := fun _ => IsP.new h.fr.size
  k14 := fun e => (h.k14 e).fr0 (fr_alloc _ _ _)
  k15 := fun e => (h.k15 e).fr0 (fr_alloc _ _ _)
  d12_13 := fun e _ => (h.k12 e).ne
  d12_14 := h.d12_14
  d12_15 := h.d12_15
  d13_14 := fun _ e => (h.k14 e).ne.symm
  d13_15 := fun _ e => (h.k15 e).ne.symm
  d14_15 := h.d14_15
  o2 := h.o2
  o5 := h.o5
  o8 := h.o8
  o11 := h.o11
theorem C4.alloc14 {wr w : World} {V1 V2 VB : Value} {ls1 ls2 ls3 ls4 : List Int} {c0 c1 c2 c3 c4 c5 c6 c7 c8 c9 c10 c11 c12 c13 c14 c15 : Bool} {u9 u10 u11 u12 u26 u27 u28 u29 u30 u31 u32 u33 u34 u35 u36 u37 : Value} (h : C4 wr V1 V2 VB ls1 ls2 ls3 ls4 c0 c1 c2 c3 c4 c5 c6 c7 c8 c9 c10 c11 c12 c13 c14 c15 u9 u10 u11 u12 u26 u27 u28 u29 u30 u31 u32 u33 u34 u35 u36 u37 w)  :
    C4 wr V1 V2 VB ls1 ls2 ls3 ls4 c0 c1 c2 c3 c4 c5 c6 c7 c8 c9 c10 c11 c12 c13 true c15 u9 u10 (.pointer (some ⟨w.heap.size, 0, none⟩)) u12 u26 u27 u28 u29 u30 u31 u32 u33 u34 u35 u36 u37 (w.alloc (.cells #[.slice none 0 0] 25)) where
  fr := (h.fr.trans0 (fr_alloc _ _ _))
  k0 := h.k0
  k1 := h.k1
  k2 := fun e => (h.k2 e).fr0 (fr_alloc _ _ _)
  k3 := h.k3
  k4 := h.k4
  k5 := fun e => (h.k5 e).fr0 (fr_alloc _ _ _)
  k6 := h.k6
  k7 := h.k7
  k8 := fun e => (h.k8 e).fr0 (fr_alloc _ _ _)
  k9 := h.k9
  k10 := h.k10
  k11 := fun e => (h.k11 e).fr0 (fr_alloc _ _ _)
  k12 := fun e => (h.k12 e).fr0 (fr_alloc _ _ _)
  k13 := fun e => (h.k13 e).fr0 (fr_alloc _ _ _)
  k14 := fun _ => IsP.new h.fr.size
  k15 := fun e => (h.k15 e).fr0 (fr_alloc _ _ _)
  d12_13 := h.d12_13
  d12_14 := fun e _ => (h.k12 e).ne
  d12_15 := h.d12_15
  d13_14 := fun e _ => (h.k13 e).ne
  d13_15 := h.d13_15
  d14_15 := fun _ e => (h.k15 e).ne.symm
  o2 := h.o2
  o5 := h.o5
  o8 := h.o8
  o11 := h.o11
theorem C4.alloc15 {wr w : World} {V1 V2 VB : Value} {ls1 ls2 ls3 ls4 : List Int} {c0 c1 c2 c3 c4 c5 c6 c7 c8 c9 c10 c11 c12 c13 c14 c15 : Bool} {u9 u10 u11 u12 u26 u27 u28 u29 u30 u31 u32 u33 u34 u35 u36 u37 : Value} (h : C4 wr V1 V2 VB ls1 ls2 ls3 ls4 c0 c1 c2 c3 c4 c5 c6 c7 c8 c9 c10 c11 c12 c13 c14 c15 u9 u10 u11 u12 u26 u27 u28 u29 u30 u31 u32 u33 u34 u35 u36 u37 w)  :
    C4 wr V1 V2 VB ls1 ls2 ls3 ls4 c0 c1 c2 c3 c4 c5 c6 c7 c8 c9 c10 c11 c12 c13 c14 true u9 u10 u11 (.pointer (some ⟨w.heap.size, 0, none⟩)) u26 u27 u28 u29 u30 u31 u32 u33 u34 u35 u36 u37 (w.alloc (.cells #[.slice none 0 0] 25)) where
  fr := (h.fr.trans0 (fr_alloc _ _ _))
  k0 := h.k0
  k1 := h.k1
  k2 := fun e => (h.k2 e).fr0 (fr_alloc _ _ _)
  k3 := h.k3
  k4 := h.k4
  k5 := fun e => (h.k5 e).fr0 (fr_alloc _ _ _)
  k6 := h.k6
  k7 := h.k7
  k8 := fun e => (h.k8 e).fr0 (fr_alloc _ _ _)
  k9 := h.k9
  k10 := h.k10
  k11 := fun e => (h.k11 e).fr0 (fr_alloc _ _ _)
  k12 := fun e => (h.k12 e).fr0 (fr_alloc _ _ _)
  k13 := fun e => (h.k13 e).fr0 (fr_alloc _ _ _)
  k14 := fun e => (h.k14 e).fr0 (fr_alloc _ _ _)
  k15 := fun _ => IsP.new h.fr.size
  d12_13 := h.d12_13
  d12_14 := h.d12_14
  d12_15 := fun e _ => (h.k12 e).ne
  d13_14 := h.d13_14
  d13_15 := fun e _ => (h.k13 e).ne
  d14_15 := fun e _ => (h.k14 e).ne
  o2 := h.o2
  o5 := h.o5
  o8 := h.o8
  o11 := h.o11
theorem C4.zero {wr w : World} {V1 V2 VB : Value} {ls1 ls2 ls3 ls4 : List Int} {u9 u10 u11 u12 u26 u27 u28 u29 u30 u31 u32 u33 u34 u35 u36 u37 : Value} (h : Fr0 wr w) : C4 wr V1 V2 VB ls1 ls2 ls3 ls4 false false false false false false false false false false false false false false false false u9 u10 u11 u12 u26 u27 u28 u29 u30 u31 u32 u33 u34 u35 u36 u37 w where
  fr := h
  k0 := fun e => Bool.noConfusion e
  k1 := fun e => Bool.noConfusion e
  k2 := fun e => Bool.noConfusion e
  k3 := fun e => Bool.noConfusion e
  k4 := fun e => Bool.noConfusion e
  k5 := fun e => Bool.noConfusion e
  k6 := fun e => Bool.noConfusion e
  k7 := fun e => Bool.noConfusion e
  k8 := fun e => Bool.noConfusion e
  k9 := fun e => Bool.noConfusion e
  k10 := fun e => Bool.noConfusion e
  k11 := fun e => Bool.noConfusion e
  k12 := fun e => Bool.noConfusion e
  k13 := fun e => Bool.noConfusion e
  k14 := fun e => Bool.noConfusion e
  k15 := fun e => Bool.noConfusion e
  d12_13 := fun e => Bool.noConfusion e
  d12_14 := fun e => Bool.noConfusion e
  d12_15 := fun e => Bool.noConfusion e
  d13_14 := fun e => Bool.noConfusion e
  d13_15 := fun e => Bool.noConfusion e
  d14_15 := fun e => Bool.noConfusion e
  o2 := fun e => Bool.noConfusion e
  o5 := fun e => Bool.noConfusion e
  o8 := fun e => Bool.noConfusion e
  o11 := fun e => Bool.noConfusion e
end Go.Proofs.Ytinjioheimpoeaa
