/- Rows of things of some whole numbers each: those that a slice's value leads to, and one's own. -/
import Derived.Test.YtekigojbkhjdbaaInts
namespace Go.Proofs.Ytekigojbkhjdbaa
set_option linter.all false
open Go.RowKit
set_option maxRecDepth 100000

structure ActI where
  a : Int
  b : Int
  c : Int
  d : Int
  deriving DecidableEq
instance : Inhabited ActI := ⟨⟨0, 0, 0, 0⟩⟩
def wfI (x : Int) : Prop := (Lit.int .i64 x).wf = true
def actE (x : ActI) : List Int := [x.a, x.b, x.c, x.d]
theorem actE_len (x : ActI) : (actE x).length = 4 := rfl
def ActOk (x : ActI) : Prop := wfI x.a ∧ wfI x.b ∧ wfI x.c ∧ wfI x.d
def tupCells {α : Type} (enc : α → List Int) (l : List α) : List Value := l.flatMap (fun a => intsI (enc a))
/-- A row of things of k numbers each, where a slice's value says. -/
def TupsAt {α : Type} (enc : α → List Int) (k : Nat) (W : World) (A : Option Addr) (l : List α) : Prop :=
  l.length ≤ 17592186044416 ∧ (l = [] ∨ ∃ b o, A = some ⟨b, o, none⟩ ∧ ∀ j (h : j < l.length), ∀ i, i < k → W.cell? ⟨b, o + j * k + i, none⟩ = some (.int .i64 ((enc l[j]).getD i 0)))
section
variable {α : Type} {enc : α → List Int} {k : Nat} {W W' : World} {A : Option Addr} {l : List α}
theorem tupCells_len (hk : ∀ a, (enc a).length = k) (l : List α) : (tupCells enc l).length = l.length * k := by
  induction l with
  | nil => simp [tupCells]
  | cons a l ih =>
    simp only [tupCells, List.flatMap_cons, List.length_append, List.length_cons] at ih ⊢
    rw [ih]; simp [intsI, hk, Nat.add_mul]; omega
theorem tupCells_get (hk : ∀ a, (enc a).length = k) (l : List α) (i : Nat) (h : i < l.length) (j : Nat) (hj : j < k) : (tupCells enc l)[i * k + j]? = some (.int .i64 ((enc l[i]).getD j 0)) := by
  induction l generalizing i with
  | nil => simp at h
  | cons a l ih =>
    have hla : (intsI (enc a)).length = k := by simp [intsI, hk]
    cases i with
    | zero =>
      simp only [tupCells, List.flatMap_cons, Nat.zero_mul, Nat.zero_add, List.getElem_cons_zero]
      rw [List.getElem?_append_left (by omega)]
      have : j < (enc a).length := by rw [hk]; exact hj
      simp [intsI, List.getD_eq_getElem?_getD, List.getElem?_eq_getElem this]
    | succ i =>
      simp only [List.length_cons] at h
      have := ih i (by omega)
      simp only [tupCells, List.flatMap_cons, List.getElem_cons_succ] at this ⊢
      rw [List.getElem?_append_right (by rw [hla, Nat.succ_mul]; omega), ← this]
      congr 1
      rw [hla, Nat.succ_mul]; omega
theorem tupCells_one (l : List α) : ∀ u ∈ tupCells enc l, u.oneCell' = true := by
  intro u hu
  simp only [tupCells, List.mem_flatMap] at hu
  obtain ⟨a, _, h⟩ := hu
  exact intsI_one _ u h
theorem tupCells_snoc (l : List α) (x : α) : tupCells enc (l ++ [x]) = tupCells enc l ++ intsI (enc x) := by simp [tupCells]
theorem TupsAt.grow {B : Nat} (h : TupsAt enc k W A l) (f : Grow B W W') : TupsAt enc k W' A l := by
  refine ⟨h.1, h.2.imp id ?_⟩
  rintro ⟨b, o, e, hc⟩
  exact ⟨b, o, e, fun j hj i hi => f.cell (hc j hj i hi)⟩
theorem TupsAt.fr0 (h : TupsAt enc k W A l) (f : Fr0 W W') : TupsAt enc k W' A l := h.grow (Fr0.grow f 0)
theorem TupsAt.fr {S : Nat → Prop} (h : TupsAt enc k W A l) (f : Fr S W W') (hs : ∀ b o, A = some ⟨b, o, none⟩ → l ≠ [] → ¬ S b) : TupsAt enc k W' A l := by
  refine ⟨h.1, ?_⟩
  by_cases h0 : l = []
  · exact .inl h0
  · rcases h.2 with e | ⟨b, o, e, hc⟩
    · exact absurd e h0
    · exact .inr ⟨b, o, e, fun j hj i hi => f.cell (hc j hj i hi) (hs b o e h0)⟩
theorem TupsAt.at_ (h : TupsAt enc k W A l) {j : Nat} (hj : j < l.length) : ∃ b o, A = some ⟨b, o, none⟩ ∧ ∀ i, i < k → W.cell? ⟨b, o + j * k + i, none⟩ = some (.int .i64 ((enc l[j]).getD i 0)) := by
  rcases h.2 with e | ⟨b, o, e, hc⟩
  · subst e; cases hj
  · exact ⟨b, o, e, hc j hj⟩
theorem TupsAt.nil (W : World) (A : Option Addr) : TupsAt enc k W A [] := ⟨by simp, .inl rfl⟩
theorem own_tups {e B c : Nat} (hk : ∀ a, (enc a).length = k) (h : W.ownsRow B e k (.slice A l.length c) l.length (tupCells enc l)) (hlen : l.length ≤ 17592186044416) : TupsAt enc k W A l := by
  refine ⟨hlen, ?_⟩
  rcases h.2 with ⟨_, e⟩ | ⟨g, cap, cur, e, hg, hh, h1, h2, h3, h4⟩
  · left; exact List.length_eq_zero_iff.1 e
  · cases e
    refine .inr ⟨g, 0, rfl, fun j hj i hi => ?_⟩
    have hlt : j * k + i < l.length * k := by
      have : (j + 1) * k ≤ l.length * k := Nat.mul_le_mul_right k hj
      rw [Nat.succ_mul] at this; omega
    rw [Nat.zero_add]
    rw [← tupCells_get hk l j hj i hi, ← h4]
    simp only [World.cell?, hh]
    rw [List.getElem?_take_of_lt hlt, Array.getElem?_toList]
    simp
theorem take_succ_T (l : List α) (j : Nat) (h : j < l.length) : l.take (j + 1) = l.take j ++ [l[j]] := by
  rw [List.take_succ_eq_append_getElem h]
theorem cells_new (w : World) (cs : List Value) (t : Nat) : ∀ j u, cs[j]? = some u → (w.alloc (.cells cs.toArray t)).cell? ((⟨w.heap.size, 0, none⟩ : Addr).add j) = some u := by
  intro j u hu
  have ha : (⟨w.heap.size, 0, none⟩ : Addr).add j = ⟨w.heap.size, j, none⟩ := by
    unfold Addr.add
    split
    · rename_i h0; subst h0; rfl
    · simp
  rw [ha]
  simp only [World.cell?, World.alloc_heap_new]
  simpa using hu
theorem intsI_get {l : List Int} : ∀ u ∈ intsI l, u.oneCell' = true := intsI_one l
theorem own_base {e size B B0 n : Nat} {v : Value} {xs : List Value} (h : W.ownsRow B e size v n xs) (hB : B0 ≤ B) : W.ownsRow B0 e size v n xs := by
  refine ⟨h.1, h.2.imp id ?_⟩
  rintro ⟨g, cap, cur, rfl, hb, rest⟩
  exact ⟨g, cap, cur, rfl, Nat.le_trans hB hb, rest⟩
theorem own_old_blk {e size B c n : Nat} {xs : List Value} {b o : Nat} (h : W.ownsRow B e size (.slice (some ⟨b, o, none⟩) n c) n xs) : B ≤ b := by
  rcases h.2 with ⟨e, _⟩ | ⟨g, cap, cur, e, hg, _⟩
  · cases e
  · cases e; exact hg
end
end Go.Proofs.Ytekigojbkhjdbaa
