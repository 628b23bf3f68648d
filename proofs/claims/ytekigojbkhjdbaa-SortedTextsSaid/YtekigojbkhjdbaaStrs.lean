/- Rows of texts: those that a slice's value leads to, and one's own. Printed by genstrs.py out of Ints. -/
import Derived.Test.YtekigojbkhjdbaaAppRow
import Derived.Sort.OwnSorted
namespace Go.Proofs.Ytekigojbkhjdbaa
set_option linter.all false
open Go.RowKit
set_option maxRecDepth 100000

abbrev Txt := List UInt8
theorem info_str : (Try.prog.info? 9).map (fun i => (i.zero, i.size, i.bytes)) = some (some (.string ⟨#[]⟩), 1, 16) := by kernel_rfl
/-- A row of whole numbers, where a slice's value says. -/
def StrsAt (W : World) (A : Option Addr) (xs : List Txt) : Prop :=
  xs.length ≤ 140737488355328 ∧ (xs = [] ∨ ∃ b o, A = some ⟨b, o, none⟩ ∧ ∀ j, j < xs.length → W.cell? ⟨b, o + j, none⟩ = some (encStr (xs.getD j [])))
theorem StrsAt.grow {B : Nat} {W W' : World} {A : Option Addr} {xs : List Txt} (h : StrsAt W A xs) (f : Grow B W W') : StrsAt W' A xs := by
  refine ⟨h.1, h.2.imp id ?_⟩
  rintro ⟨b, o, e, hc⟩
  exact ⟨b, o, e, fun j hj => f.cell (hc j hj)⟩
theorem StrsAt.fr0 {W W' : World} {A : Option Addr} {xs : List Txt} (h : StrsAt W A xs) (f : Fr0 W W') : StrsAt W' A xs := h.grow (Fr0.grow f 0)
theorem take_snoc_s (xs : List Txt) (j : Nat) (h : j < xs.length) : xs.take (j + 1) = xs.take j ++ [xs.getD j []] := by
  rw [List.take_succ_eq_append_getElem h]; simp [List.getD_eq_getElem?_getD, List.getElem?_eq_getElem h]
theorem StrsAt.at_ {W : World} {A : Option Addr} {xs : List Txt} (h : StrsAt W A xs) {k : Nat} (hk : k < xs.length) : ∃ b o, A = some ⟨b, o, none⟩ ∧ W.cell? ⟨b, o + k, none⟩ = some (encStr (xs.getD k [])) := by
  rcases h.2 with e | ⟨b, o, e, hc⟩
  · subst e; cases hk
  · exact ⟨b, o, e, hc k hk⟩
def strsI (l : List Txt) : List Value := l.map encStr
theorem strsI_snoc (l : List Txt) (x : Txt) : strsI l ++ [encStr x] = strsI (l ++ [x]) := by simp [strsI]
/-- A row of numbers is handed back, in new memory. -/
def SListPost (w : World) (l : List Txt) (v : Value) (w' : World) : Prop := Fr0 w w' ∧ w'.ownsRow w.heap.size 9 1 v l.length (strsI l)
theorem own_strs {W : World} {B c : Nat} {A : Option Addr} {l : List Txt} (h : W.ownsRow B 9 1 (.slice A l.length c) l.length (strsI l)) (hlen : l.length ≤ 140737488355328) : StrsAt W A l := by
  refine ⟨hlen, ?_⟩
  rcases h.2 with ⟨_, e⟩ | ⟨g, cap, cur, e, _⟩
  · left; exact List.length_eq_zero_iff.1 e
  · cases e
    refine .inr ⟨g, 0, rfl, fun j hj => ?_⟩
    rw [Nat.zero_add, h.cellAt j (by omega)]
    simp [strsI, List.getD_eq_getElem?_getD, List.getElem?_eq_getElem hj]
theorem take_succ_S (l : List Txt) (j : Nat) (h : j < l.length) : l.take (j + 1) = l.take j ++ [l.getD j []] := by
  rw [List.take_add_one, List.getElem?_eq_getElem h, List.getD_eq_getElem?_getD, List.getElem?_eq_getElem h]; rfl
theorem strs_news {W : World} {b o : Nat} {ys : List Txt} (h : StrsAt W (some ⟨b, o, none⟩) ys) : ∀ j u, (strsI ys)[j]? = some u → W.cell? ((⟨b, o, none⟩ : Addr).add j) = some u := by
  intro j u hu
  have hj : j < ys.length := by
    have := (List.getElem?_eq_some_iff.1 hu).1
    simpa [strsI] using this
  obtain ⟨b', o', e, hc⟩ := h.at_ hj
  injection e with e
  injection e with e1 e2 _
  subst e1
  subst e2
  have e2 : (⟨b, o, none⟩ : Addr).add j = ⟨b, o + j, none⟩ := by simp [Addr.add]
  rw [e2, hc, ← hu]
  simp [strsI, List.getD_eq_getElem?_getD, List.getElem?_eq_getElem hj]
theorem strsI_one (ys : List Txt) : ∀ u ∈ strsI ys, u.oneCell' = true := by
  intro u hu
  obtain ⟨x, _, rfl⟩ := List.mem_map.1 hu
  rfl
theorem elem_strs : Try.prog.underlying 22 = some (.slice (Try.prog.elem 22)) := by kernel_rfl
theorem slice_head_s (A : Option Addr) (n c k : Nat) (hk : k ≤ c) (wx : World) : (Instr.slice 22 (.slice A n c) none (some (.int .i64 (k : Int))) none).run Try.prog wx = .ok (.slice A k c) wx := by
  rw [run_slice_h (P := Try.prog) wx 22 A n c elem_strs .i64 (k : Int) (by omega) (by omega)]
  go_simp
theorem StrsAt.take {W : World} {A : Option Addr} {xs : List Txt} (h : StrsAt W A xs) (k : Nat) : StrsAt W A (xs.take k) := by
  refine ⟨Nat.le_trans (by rw [List.length_take]; omega) h.1, ?_⟩
  rcases h.2 with rfl | ⟨b, o, e, hc⟩
  · exact .inl (by simp)
  · refine .inr ⟨b, o, e, fun j hj => ?_⟩
    rw [List.length_take] at hj
    rw [hc j (by omega), List.getD_eq_getElem?_getD, List.getD_eq_getElem?_getD, List.getElem?_take_of_lt (by omega)]
theorem strs_lit {W : World} {N t : Nat} {l : List Txt} {fz : Nat × Nat} (h : W.heap[N]? = some (.cells (strsI l).toArray t fz)) (hl : l.length ≤ 140737488355328) : StrsAt W (some ⟨N, 0, none⟩) l := by
  refine ⟨hl, .inr ⟨N, 0, rfl, fun j hj => ?_⟩⟩
  simp [World.cell?, h, strsI, List.getD_eq_getElem?_getD, List.getElem?_eq_getElem hj]
end Go.Proofs.Ytekigojbkhjdbaa
