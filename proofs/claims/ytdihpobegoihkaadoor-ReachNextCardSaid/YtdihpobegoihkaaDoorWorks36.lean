/- The statements' try of the closure at a graph of three vertices. -/
import Derived.Test.YtdihpobegoihkaaDoorRef36
namespace Go.Proofs.YtdihpobegoihkaaDoor
set_option linter.all false
open Go.RowKit
set_option maxRecDepth 100000

theorem nodup_pair {α β : Type} (f : α → β) : ∀ {l : List α}, (l.map f).Nodup → l.Pairwise (fun a b => f a ≠ f b) := by
  intro l h
  have : (l.map f).Pairwise (fun a b => a ≠ b) := h
  rwa [List.pairwise_map] at this
/-- Sorted arcs, whose keys are all different, are one row. -/
theorem sorted_uniq {s J : List ArcI} (hp : s.Perm J) (hs : SortedOn s 0 s.length) (hJ : (J.map keyA).Pairwise ltK) : s = J := by
  have hJ' : J.Pairwise (fun a b => ltK (keyA a) (keyA b)) := by rwa [List.pairwise_map] at hJ
  have hirr : ∀ a : ArcI, ¬ ltK (keyA a) (keyA a) := by intro a h; unfold ltK at h; omega
  have htr : ∀ a b c : ArcI, ltK (keyA a) (keyA b) → ltK (keyA b) (keyA c) → ltK (keyA a) (keyA c) := by intro a b c h1 h2; unfold ltK at *; omega
  have hnd : (J.map keyA).Nodup := hJ.imp (fun {a b} h e => by subst e; unfold ltK at h; omega)
  have hnds : (s.map keyA).Nodup := ((hp.map keyA).nodup_iff).2 hnd
  have hs2 : s.Pairwise (fun a b => ltK (keyA a) (keyA b)) := by
    refine ((sorted_pair hs).and (nodup_pair keyA hnds)).imp (fun {a b} h => ?_)
    obtain ⟨h1, h2⟩ := h
    unfold leA at h1
    unfold ltK
    rcases h1 with h1 | ⟨h1, h3⟩
    · exact .inl h1
    · right
      refine ⟨h1, ?_⟩
      rcases Int.lt_or_eq_of_le h3 with h | h
      · exact h
      · exact absurd (by simp [keyA, h1, h]) h2
  exact rise_ext hirr htr hs2 hJ' (fun x => hp.mem_iff)
theorem arcs_lit {W : World} {N t : Nat} {l : List ArcI} {fz : Nat × Nat} (h : W.heap[N]? = some (.cells (arcCells l).toArray t fz)) (hl : l.length ≤ 17592186044416) : ArcsAt W (some ⟨N, 0, none⟩) l := by
  refine ⟨hl, .inr ⟨N, 0, rfl, fun j hj => ?_⟩⟩
  have hc : ∀ d, d < 3 → W.cell? ⟨N, 0 + j * 3 + d, none⟩ = (arcV l[j])[d]? := fun d hd => by
    have := arcCells_get l j hj d hd
    rw [Nat.zero_add, ← this]
    simp [World.cell?, h]
  have e : l.getD j default = l[j] := by rw [List.getD_eq_getElem?_getD, List.getElem?_eq_getElem hj]; rfl
  rw [e]
  exact ⟨hc 0 (by omega), hc 1 (by omega), hc 2 (by omega)⟩
theorem ints_lit {W : World} {N t : Nat} {l : List Int} {fz : Nat × Nat} (h : W.heap[N]? = some (.cells (intsI l).toArray t fz)) (hl : l.length ≤ 140737488355328) : IntsAt W (some ⟨N, 0, none⟩) l := by
  refine ⟨hl, .inr ⟨N, 0, rfl, fun j hj => ?_⟩⟩
  simp [World.cell?, h, intsI, List.getD_eq_getElem?_getD, List.getElem?_eq_getElem hj]
def J3 : List ArcI := [⟨0, 1, 1⟩, ⟨1, 0, 4⟩, ⟨2, 0, 2⟩]
def M3 : Nat → Nat → Bool := warsh (fun i => rowM 3 J3 7 i) 3
theorem J3_fil : J3.filter (fun a => !dropI a) = J3 := by decide
theorem J3_rise : (J3.map keyA).Pairwise ltK := by
  simp only [J3, List.map_cons, List.map_nil, keyA, ltK]
  refine List.pairwise_cons.2 ⟨by simp [ltK], List.pairwise_cons.2 ⟨by simp [ltK], List.pairwise_cons.2 ⟨by simp, List.Pairwise.nil⟩⟩⟩
theorem J3_join : joinL J3 = J3 := by decide
theorem M3_a : leadsI 3 M3 0 0 = true := by decide
theorem M3_b : leadsI 3 M3 2 1 = true := by decide
theorem M3_c : leadsI 3 M3 0 2 = false := by decide
theorem M3_d : natI (elems 3 (fun v => M3 v v)) = [0, 1] := by decide
theorem M3_e : natI (elems 3 (rowI 3 M3 2)) = [0, 1] := by decide
theorem M3_f : existsI 3 J3 10 = true := by decide
theorem M3_g : existsI 3 J3 9 = false := by decide
theorem J3_bad : J3.any (badI (3 : Nat)) = false := by decide
/-- What building these three arcs comes to. -/
theorem built_lit {W w' : World} {n : Nat} {J : List ArcI} {v : Value} (hn : n ≤ 1024) (h1 : J.filter (fun a => !dropI a) = J) (h2 : (J.map keyA).Pairwise ltK) (h3 : joinL J = J) (h4 : J.any (badI n) = false) (h : BuildPost W n J v w') :
    ∃ g, v = .pointer (some ⟨g, 0, none⟩) ∧ Fr0 W w' ∧ GP w' (some ⟨g, 0, none⟩) n J := by
  obtain ⟨g, s, rfl, hf, hp, hs, ab, A, c, hG⟩ := h
  rw [h1] at hp
  have e := sorted_uniq hp hs h2
  subst e
  have := built_isG hn (by rw [h1]) hs h4 hG
  rw [h3] at this
  exact ⟨g, rfl, hf, .inr ⟨g, ab, A, c, rfl, this⟩⟩
theorem list_ints {W : World} {B c : Nat} {A : Option Addr} {l : List Nat} {xs : List Int} (h : W.ownsRow B 3 1 (.slice A l.length c) l.length (ints l)) (e : natI l = xs) (hlen : l.length ≤ 140737488355328) : IntsAt W A xs ∧ l.length = xs.length := by
  subst e
  exact ⟨own_ints h hlen, by simp [natI]⟩
set_option maxHeartbeats 4000000 in
theorem works36_is {W : World} (hT : Tab W) : Calls Tryd.prog 14 #[] W (Rets (SamePost true W)) := by
  have HT := Lib.hid hT
  have hW1 : Fr0 W (W.alloc (.cells (arcCells J3).toArray 71)) := fr_alloc _ _ _
  have HB := Lib.hid (build_is (c := 3) (arcs_lit (W := W.alloc (.cells (arcCells J3).toArray 71)) (World.alloc_heap_new _ _) (by decide)) (by decide) (n := 3) (by omega) J3_bad)
  clear hT
  go_enter Tryd.func14, Tryd.ntmps14
  go_wp2_with (first
    | (go_at_call 17; refine (HB.out).mono ?_; rintro e w1 ⟨v1, rfl, hb1⟩; obtain ⟨g, rfl, hf1, hG⟩ := built_lit (by omega) J3_fil J3_rise J3_join J3_bad hb1)
    | (go_at_call 16; refine (CloNew_is hG 7 ((HT.out.fr hW1 (fun x => x)).fr hf1 (fun x => x))).mono ?_; rintro e w2 ⟨v2, rfl, cg, L, rfl, hf2, hC⟩; have hF2 := (hW1.trans0 hf1).trans0 hf2; have HG2 := Lib.hid (hG.fr0 hf2); have HC := Lib.hid (show IsClo w2 cg 3 L M3 from hC); have H0 := Leads_is HC.out 0 0; rw [M3_a] at H0; have H1 := Leads_is HC.out 2 1; rw [M3_b] at H1; have H2 := Leads_is HC.out 0 2; rw [M3_c] at H2; replace H0 := Lib.hid H0; replace H1 := Lib.hid H1; replace H2 := Lib.hid H2; clear hC hG)
    | (go_at_call 23; with_reducible refine H0.out.mono ?_; rintro e w' ⟨rfl, rfl⟩)
    | (go_at_call 23; with_reducible refine H1.out.mono ?_; rintro e w' ⟨rfl, rfl⟩)
    | (go_at_call 23; with_reducible refine H2.out.mono ?_; rintro e w' ⟨rfl, rfl⟩)
    | (go_at_call 25; refine (Cyclic_is HC.out).mono ?_; rintro e w3 ⟨v3, rfl, hf3, ho3⟩; obtain ⟨A3, c3, rfl⟩ := own_form ho3; obtain ⟨hI3, hl3⟩ := list_ints ho3 M3_d (by decide); rw [hl3]; clear hl3 ho3)
    | (go_at_call 19; refine (Same_is (c := c6) (d := 2) (xs := [0, 1]) (ys := [0, 1]) (hI6.fr0 (fr_alloc _ _ _)) (ints_lit (World.alloc_heap_new _ _) (by decide))).mono ?_; rintro e w7 ⟨_, rfl, rfl, hf7⟩; rw [show decide (([0, 1] : List Int) = [0, 1]) = true by decide]; have hF7 := ((hF4.trans0 hf5).trans0 hf6).trans0 ((fr_alloc _ _ _).trans0 hf7))
    | (go_at_call 19; refine (Same_is (c := c3) (d := 2) (xs := [0, 1]) (ys := [0, 1]) (hI3.fr0 (fr_alloc _ _ _)) (ints_lit (World.alloc_heap_new _ _) (by decide))).mono ?_; rintro e w4 ⟨_, rfl, rfl, hf4⟩; rw [show decide (([0, 1] : List Int) = [0, 1]) = true by decide]; have hF4 := hf3.trans0 ((fr_alloc _ _ _).trans0 hf4))
    | (go_at_call 18; refine (RowC_is (HC.out.fr0 hF4) 2).mono ?_; rintro e w5 ⟨v5, rfl, g5, a5, rfl, _, _, hf5, hI5⟩)
    | (go_at_call 20; refine (List_is hI5).mono ?_; rintro e w6 ⟨v6, rfl, hf6, ho6⟩; obtain ⟨A6, c6, rfl⟩ := own_form ho6; obtain ⟨hI6, hl6⟩ := list_ints ho6 M3_e (by decide); rw [hl6]; clear hl6 ho6)
    | (go_at_call 29; refine (Exists_is (HG2.out.fr0 (hF7.trans0 hf8)) (HC.out.tab.fr (hF7.trans0 hf8) (fun x => x)) (by decide) 9).mono ?_; rintro e w9 ⟨_, rfl, rfl, hf9⟩; rw [M3_g])
    | (go_at_call 29; refine (Exists_is (HG2.out.fr0 hF7) (HC.out.tab.fr hF7 (fun x => x)) (by decide) 10).mono ?_; rintro e w8 ⟨_, rfl, rfl, hf8⟩; rw [M3_f]))
  go_ret
  exact ⟨_, rfl, rfl, hF2.trans0 ((hF7.trans0 hf8).trans0 hf9)⟩
end Go.Proofs.YtdihpobegoihkaaDoor
