/- Joined arcs rise strictly: lists alone. -/
import Derived.Test.YtidpmbbkpclccaaGraph
namespace Go.Proofs.Ytidpmbbkpclccaa
set_option linter.all false
set_option maxRecDepth 100000

def keyA (a : ArcI) : Int × Int := (a.f, a.t)
def ltK (a b : Int × Int) : Prop := a.1 < b.1 ∨ (a.1 = b.1 ∧ a.2 < b.2)
theorem keys_joinS (acc : List ArcI) (u : ArcI) (h : ∀ x ∈ acc, leA x u) (hp : (acc.map keyA).Pairwise ltK) : ((joinS acc u).map keyA).Pairwise ltK := by
  by_cases h0 : 0 < acc.length
  · have hmem : acc.getD (acc.length - 1) default ∈ acc := by
      rw [List.getD_eq_getElem?_getD, List.getElem?_eq_getElem (by omega)]; exact List.getElem_mem _
    by_cases hs : standsI (acc.getD (acc.length - 1) default).f (acc.getD (acc.length - 1) default).t u.f u.t = 0
    · rw [joinS_eq h0 hs, List.map_set, set_same]
      · exact hp
      · rw [List.getElem?_map, List.getD_eq_getElem?_getD, List.getElem?_eq_getElem (by omega)]; rfl
    · rw [joinS_ne h0 hs, List.map_append, List.pairwise_append]
      refine ⟨hp, by simp, ?_⟩
      intro x hx y hy
      have hy' : y = keyA u := by simpa using hy
      subst hy'
      have hlast : ltK (keyA (acc.getD (acc.length - 1) default)) (keyA u) := by
        have h1 := h _ hmem
        have h2 := mt (standsI_zero _ _).2 hs
        generalize acc.getD (acc.length - 1) default = b at h1 h2
        unfold leA at h1
        simp only [ltK, keyA]
        omega
      rw [List.mem_iff_getElem] at hx
      obtain ⟨i, hi, rfl⟩ := hx
      rw [List.length_map] at hi
      by_cases e : i = acc.length - 1
      · subst e
        rw [List.getElem_map]
        have : acc.getD (acc.length - 1) default = acc[acc.length - 1] := by rw [List.getD_eq_getElem?_getD, List.getElem?_eq_getElem hi]; rfl
        rw [← this]; exact hlast
      · have h3 := (List.pairwise_iff_getElem.1 hp) i (acc.length - 1) (by simpa using hi) (by simp; omega) (by omega)
        rw [List.getElem_map, List.getElem_map] at h3
        rw [List.getElem_map]
        have : acc.getD (acc.length - 1) default = acc[acc.length - 1] := by rw [List.getD_eq_getElem?_getD, List.getElem?_eq_getElem (by omega)]; rfl
        rw [← this] at h3
        generalize keyA acc[i] = x1 at h3 ⊢
        generalize keyA (acc.getD (acc.length - 1) default) = x2 at h3 hlast
        generalize keyA u = x3 at hlast ⊢
        unfold ltK at *
        omega
  · have e : acc = [] := List.length_eq_zero_iff.1 (by omega)
    subst e
    simp [joinS]
theorem keys_join (l : List ArcI) : ∀ acc : List ArcI, (∀ x ∈ acc, ∀ y ∈ l, leA x y) → l.Pairwise leA → (acc.map keyA).Pairwise ltK → ((l.foldl joinS acc).map keyA).Pairwise ltK := by
  induction l with
  | nil => intro acc _ _ h; exact h
  | cons u l ih =>
    intro acc h hp ha
    rw [List.pairwise_cons] at hp
    refine ih (joinS acc u) ?_ hp.2 (keys_joinS acc u (fun x hx => h x hx u (List.mem_cons_self ..)) ha)
    intro x hx y hy
    rcases joinS_mem hx with ⟨b, hb, e1, e2⟩ | rfl
    · have := h b hb y (List.mem_cons_of_mem _ hy)
      unfold leA at this ⊢
      rw [← e1, ← e2]; exact this
    · exact hp.1 y hy
theorem sorted_pair {s : List ArcI} (h : SortedOn s 0 s.length) : s.Pairwise leA := by
  rw [List.pairwise_iff_getElem]
  intro i j hi hj hij
  have := h i j (Nat.zero_le _) hij hj
  rwa [List.getD_eq_getElem?_getD, List.getD_eq_getElem?_getD, List.getElem?_eq_getElem hi, List.getElem?_eq_getElem hj] at this
theorem joinL_keys {s : List ArcI} (h : SortedOn s 0 s.length) : ((joinL s).map keyA).Pairwise ltK :=
  keys_join s [] (fun x hx => by cases hx) (sorted_pair h) List.Pairwise.nil
theorem joinL_rise {s : List ArcI} (h : SortedOn s 0 s.length) : ∀ p q, p < q → q < (joinL s).length → ((joinL s).getD p default).f ≤ ((joinL s).getD q default).f := by
  intro p q hpq hq
  have h1 := (List.pairwise_iff_getElem.1 (joinL_keys h)) p q (by simp; omega) (by simpa using hq) hpq
  rw [List.getElem_map, List.getElem_map] at h1
  rw [List.getD_eq_getElem?_getD, List.getD_eq_getElem?_getD, List.getElem?_eq_getElem (by omega), List.getElem?_eq_getElem hq]
  simp only [ltK, keyA] at h1
  simp only [Option.getD_some]
  omega
/-- What was built is a graph. -/
theorem built_isG {W : Go.World} {g n ab c : Nat} {A : Option Go.Addr} {l s : List ArcI} (hn : n ≤ 1024) (hp : s.Perm (l.filter (fun a => !dropI a))) (hs : SortedOn s 0 s.length) (hall : l.any (badI n) = false) (h : GX W g n (joinL s) ab A c) :
    IsG W g n (joinL s) ab A c := ⟨hn, ⟨join_ends hp hall, joinL_rise hs⟩, h⟩
end Go.Proofs.Ytidpmbbkpclccaa
