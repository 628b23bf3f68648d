/- Joining sorted arcs: lists alone. -/
import Derived.Test.YtidpmbbkpclccaaPreds
namespace Go.Proofs.Ytidpmbbkpclccaa
set_option linter.all false
open Go.RowKit
set_option maxRecDepth 100000

/-- One more arc: into the last one, if they stand alike. -/
def joinS (out : List ArcI) (a : ArcI) : List ArcI :=
  match out.getLast? with
  | none => [a]
  | some b => if standsI b.f b.t a.f a.t = 0 then out.set (out.length - 1) ⟨b.f, b.t, bits .or .i64 b.m a.m⟩ else out ++ [a]
theorem joinS_nil (a : ArcI) : joinS [] a = [a] := rfl
theorem getLast_getD {l : List ArcI} (h : 0 < l.length) : l.getLast? = some (l.getD (l.length - 1) default) := by
  rw [List.getLast?_eq_getElem?, List.getD_eq_getElem?_getD, List.getElem?_eq_getElem (by omega)]; rfl
theorem joinS_eq {out : List ArcI} (h : 0 < out.length) {a : ArcI} (hs : standsI (out.getD (out.length - 1) default).f (out.getD (out.length - 1) default).t a.f a.t = 0) :
    joinS out a = out.set (out.length - 1) ⟨(out.getD (out.length - 1) default).f, (out.getD (out.length - 1) default).t, bits .or .i64 (out.getD (out.length - 1) default).m a.m⟩ := by
  unfold joinS; rw [getLast_getD h]; simp only; rw [if_pos hs]
theorem joinS_ne {out : List ArcI} (h : 0 < out.length) {a : ArcI} (hs : standsI (out.getD (out.length - 1) default).f (out.getD (out.length - 1) default).t a.f a.t ≠ 0) :
    joinS out a = out ++ [a] := by
  unfold joinS; rw [getLast_getD h]; simp only; rw [if_neg hs]
def joinL (l : List ArcI) : List ArcI := l.foldl joinS []
theorem joinS_len (out : List ArcI) (a : ArcI) : (joinS out a).length ≤ out.length + 1 := by
  unfold joinS
  split
  · rename_i h; simp
  · split <;> simp
theorem joinL_snoc (l : List ArcI) (a : ArcI) : joinL (l ++ [a]) = joinS (joinL l) a := by simp [joinL, List.foldl_append]
theorem join_len (l : List ArcI) : ∀ acc : List ArcI, (l.foldl joinS acc).length ≤ acc.length + l.length := by
  induction l with
  | nil => intro acc; simp
  | cons a l ih => intro acc; have h1 := ih (joinS acc a); have h2 := joinS_len acc a; simp only [List.foldl_cons, List.length_cons]; omega
theorem joinL_len (l : List ArcI) : (joinL l).length ≤ l.length := by have := join_len l []; simpa [joinL] using this
/-- A row that is its own, of arcs: either there is none, or a block holds it. -/
theorem own_arr {W : World} {B : Nat} {v : Value} {l : List ArcI} (h : W.ownsRow B 29 3 v l.length (arcCells l)) :
    (v = .slice none 0 0 ∧ l = []) ∨ ∃ g cap tail, v = .slice (some ⟨g, 0, none⟩) l.length cap ∧ B ≤ g ∧ ArrAt W g l tail ∧ l.length ≤ cap ∧ cap ≤ maxLen ∧ l.length * 3 + tail.length = cap * 3 := by
  rcases h.2 with ⟨h1, h2⟩ | ⟨g, cap, cur, h1, h2, h3, h4, h5, h6, h7⟩
  · exact .inl ⟨h1, List.length_eq_zero_iff.1 h2⟩
  · refine .inr ⟨g, cap, cur.toList.drop (l.length * 3), h1, h2, ?_, h4, h5, ?_⟩
    · unfold ArrAt
      rw [h3, ← h7, List.take_append_drop]
    · have h8 : cur.toList.length = cap * 3 := by simpa using h6
      have : l.length * 3 ≤ cap * 3 := Nat.mul_le_mul_right 3 h4
      rw [List.length_drop, h8]; omega
theorem arr_own {W : World} {B g cap : Nat} {l : List ArcI} {tail : List Value} (hB : B ≤ g) (h : ArrAt W g l tail) (hc : l.length ≤ cap) (hm : cap ≤ maxLen) (ht : l.length * 3 + tail.length = cap * 3) :
    W.ownsRow B 29 3 (.slice (some ⟨g, 0, none⟩) l.length cap) l.length (arcCells l) := by
  refine ⟨arcCells_len l, .inr ⟨g, cap, _, rfl, hB, h, hc, hm, ?_, ?_⟩⟩
  · rw [List.size_toArray, List.length_append, arcCells_len]; exact ht
  · simp [← arcCells_len]
theorem set_same {α} (l : List α) (i : Nat) (u : α) (h : l[i]? = some u) : l.set i u = l := by
  apply List.ext_getElem?
  intro k
  rw [List.getElem?_set]
  split
  · rename_i e; subst e; split
    · exact h.symm
    · rename_i hk; rw [List.getElem?_eq_none (by omega)] at h; cases h
  · rfl
theorem ArrAt.setM {W : World} {b : Nat} {l : List ArcI} {tail : List Value} (h : ArrAt W b l tail) {i : Nat} (hi : i < l.length) (m : Int) :
    ArrAt (W.setCell ⟨b, i * 3 + 2, none⟩ (.int .i64 m)) b (l.set i ⟨(l.getD i default).f, (l.getD i default).t, m⟩) tail := by
  have hg : l.getD i default = l[i] := by rw [List.getD_eq_getElem?_getD, List.getElem?_eq_getElem hi]; rfl
  have c0 : (arcCells l ++ tail)[i * 3]? = some (.int .i64 (l.getD i default).f) := by
    rw [List.getElem?_append_left (by rw [arcCells_len]; omega), show i * 3 = i * 3 + 0 by omega, arcCells_get l i hi 0 (by omega), hg]; rfl
  have c1 : (arcCells l ++ tail)[i * 3 + 1]? = some (.int .i64 (l.getD i default).t) := by
    rw [List.getElem?_append_left (by rw [arcCells_len]; omega), arcCells_get l i hi 1 (by omega), hg]; rfl
  unfold ArrAt at h ⊢
  rw [arcCells_set _ _ _ _ hi, set_same _ _ _ c0, set_same _ _ _ c1, heap_setCell_same h]
  simp
end Go.Proofs.Ytidpmbbkpclccaa
