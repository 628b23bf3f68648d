/- WalkLaw, WalkLeastP, WalkFitsP, in one text. -/
import Derived.Test.YtdcjfpjpboafnaaDoorWalkRules
import Derived.Test.YtdcjfpjpboafnaaDoorRefFirst
namespace Go.Proofs.YtdcjfpjpboafnaaDoor
set_option linter.all false
open Go.RowKit
set_option maxRecDepth 100000

theorem two_held {w0 : World} {x y : Value} {t : Nat} : ∀ w', Fr0 (w0.alloc (.cells #[x, y] t)) w' → w'.cell? ⟨w0.heap.size, 0, none⟩ = some x ∧ w'.cell? ⟨w0.heap.size, 1, none⟩ = some y := by
  intro w' f
  have hc : ∀ (i : Nat) (v : Value), (#[x, y] : Array Value)[i]? = some v → (w0.alloc (.cells #[x, y] t)).cell? ⟨w0.heap.size, i, none⟩ = some v := fun i v hv => by rw [World.cell?, World.alloc_heap_new]; exact hv
  exact ⟨f.cell (hc 0 _ rfl) (fun x => x), f.cell (hc 1 _ rfl) (fun x => x)⟩
theorem few25 {n : Int} {l : List ArcI} {most arcs : Int} (h : fewI n l most arcs = true) : 0 ≤ n ∧ n ≤ most ∧ (l.length : Int) ≤ arcs ∧ l.any (badI n) = false := by
  simp only [fewI, Bool.and_eq_true, decide_eq_true_eq, Bool.not_eq_true'] at h
  exact ⟨h.1.1.1, h.1.1.2, h.1.2, h.2⟩
def farN (far : Nat → Bool → Option Nat) (d : Bool) (n : Nat) : List Int := (List.range n).map (fun u => encF (far u d))
theorem farN_len (far : Nat → Bool → Option Nat) (d : Bool) (n : Nat) : (farN far d n).length = n := by simp [farN]
theorem numF_enc (far : Nat → Bool → Option Nat) (u : Nat) (d : Bool) : numF far (u : Int) d = encF (far u d) := by
  unfold numF encF; rw [if_pos (by omega), Int.toNat_natCast]
theorem farL_enc (far : Nat → Bool → Option Nat) (d : Bool) (n : Nat) : farL far d n = farN far d n := by
  unfold farL farN
  exact List.map_congr_left (fun u _ => numF_enc far u d)
/-- The set of a law, within a graph. -/
abbrev pwL (n : Nat) (xs : List Int) : Nat → Bool := fun k => decide (k < n) && putP 100 (fun _ => false) xs k
theorem pwL_lt {n : Nat} {xs : List Int} : ∀ u, pwL n xs u = true → u < n := fun u h => by rw [Bool.and_eq_true, decide_eq_true_iff] at h; exact h.1
theorem SameL_is {W : World} {A B : Option Addr} {c d n : Nat} {L : List Int} (h : IntsAt W A L) (h2 : IntsAt W B L) (hn : L.length = n) :
    Calls Tryd.prog 17 #[.slice A n c, .slice B n d] W (Rets (SamePost true W)) := by
  subst hn
  have := Same_is (c := c) (d := d) h h2
  rwa [decide_eq_true rfl] at this
def DistLPost (W : World) (n : Nat) (l : List ArcI) (xs : List Int) (a b c t : Int) (x : Value) (w' : World) : Prop :=
  ∃ far A cA B cB, x = .tuple #[.slice A n cA, .slice B n cB] ∧ Fr0 W w' ∧ FarOk n (fun v => decide ((v : Int) ∈ xs)) (refE n (mxL l) a b c) (fun u => decide ((u : Int) = t)) far ∧ IntsAt w' A (farN far false n) ∧ IntsAt w' B (farN far true n)
theorem distL_is {W : World} {r : Option Addr} {p pt n : Nat} {l J J' : List ArcI} {xs : List Int} {a b c t : Int} (hR : IsR W r (some ⟨p, 0, none⟩) (some ⟨pt, 0, none⟩)) (hG : GP W (some ⟨p, 0, none⟩) n J) (hGt : GP W (some ⟨pt, 0, none⟩) n J') (h1 : Built n l J) (h2 : Built n (turnL J n) J') (hT : Tab W) {g ga : Nat} (hI : IsBits W g ga 100 (putP 100 (fun _ => false) xs)) (hn : n ≤ 100) (ht : (Lit.int .i64 t).wf = true) :
    Calls Tryd.prog 13 #[.pointer r, .pointer (some ⟨g, 0, none⟩), .agg #[.int .i64 a, .int .i64 b, .int .i64 c], .int .i64 t] W (Rets (DistLPost W n l xs a b c t)) := by
  refine (DistW_is hR hG hGt hT hI (by omega) ht (fun u _ => in_of h1 h2 a pwL_lt u) (fun u _ => in_of h1 h2 b pwL_lt u) (fun u _ => in_of h1 h2 c pwL_lt u)).mono ?_
  rintro e w' ⟨_, rfl, hf, far, va, vb, hF, rfl, ha, hb⟩
  obtain ⟨A, c1, rfl⟩ := own_form ha
  obtain ⟨B, c2, rfl⟩ := own_form hb
  refine ⟨_, rfl, far, A, c1, B, c2, rfl, hf, hF.congr (pw_eq hn xs), ?_, ?_⟩
  · rw [farL_enc] at ha
    exact own_intsI (c := c1) (by rw [farN_len]; exact ha) (by rw [farN_len]; omega)
  · rw [farL_enc] at hb
    exact own_intsI (c := c2) (by rw [farN_len]; exact hb) (by rw [farN_len]; omega)
def LeastLPost (W : World) (n : Nat) (l : List ArcI) (xs : List Int) (a b c v : Int) (x : Value) (w' : World) : Prop :=
  Fr0 W w' ∧ ∃ far, FarOk n (fun v => decide ((v : Int) ∈ xs)) (refE n (mxL l) a b c) (fun u => decide ((u : Int) = v)) far ∧ ((numF far v false < 0 ∧ x = .tuple #[.slice none 0 0, .bool false]) ∨
    ∃ (k0 : Nat) (ys : List Nat) (A : Option Addr) (cA : Nat), numF far v false = (k0 : Int) ∧ x = .tuple #[.slice A ys.length cA, .bool true] ∧ w'.ownsRow W.heap.size 3 1 (.slice A ys.length cA) ys.length (ints ys) ∧ firstR (outsD n (mxL l) xs) (fitsD n (mxL l) a b c v.toNat) (k0 - 1) [v.toNat] = some ys)
theorem leastL_is {W : World} {r : Option Addr} {p pt n : Nat} {l J J' : List ArcI} {xs : List Int} {a b c t : Int} (hR : IsR W r (some ⟨p, 0, none⟩) (some ⟨pt, 0, none⟩)) (hG : GP W (some ⟨p, 0, none⟩) n J) (hGt : GP W (some ⟨pt, 0, none⟩) n J') (h1 : Built n l J) (h2 : Built n (turnL J n) J') (hT : Tab W) {g ga : Nat} (hI : IsBits W g ga 100 (putP 100 (fun _ => false) xs)) (hn : n ≤ 100) (hl : l.length ≤ 1000) (ht : (Lit.int .i64 t).wf = true) :
    Calls Tryd.prog 18 #[.pointer r, .pointer (some ⟨g, 0, none⟩), .agg #[.int .i64 a, .int .i64 b, .int .i64 c], .int .i64 t] W (Rets (LeastLPost W n l xs a b c t)) := by
  refine (LeastW_is (outs := outsD n (mxL l) xs) (fits := fitsD n (mxL l) a b c t.toNat) hR hG hGt hT hI (by omega) (Nat.le_trans h1.len (by omega)) ht (fun u _ => in_of h1 h2 a pwL_lt u) (fun u _ => in_of h1 h2 b pwL_lt u) (fun u _ => in_of h1 h2 c pwL_lt u) (fun u _ => out_of h1 a pwL_lt u) (fun u _ => out_of h1 b pwL_lt u) (fun u _ => out_of h1 c pwL_lt u)
    (fitD_is n (mxL l) a b c t.toNat) ((outsD_is n (mxL l) a b c xs).congr (fun v hv => (pw_eq hn xs v hv).symm))).mono ?_
  rintro e w' ⟨_, rfl, hf, far, hF, h⟩
  refine ⟨_, rfl, hf, far, hF.congr (pw_eq hn xs), ?_⟩
  rcases h with h | ⟨k0, ys, vo, hk, rfl, ho, hfi⟩
  · exact .inl h
  · obtain ⟨A, c, rfl⟩ := own_form ho
    exact .inr ⟨k0, ys, A, c, hk, rfl, ho, hfi⟩
end Go.Proofs.YtdcjfpjpboafnaaDoor
namespace Go.Proofs.YtdcjfpjpboafnaaDoor
set_option linter.all false
open Go.RowKit
set_option maxRecDepth 100000

theorem firstR_some {outs : Nat → List Nat} {fits : List Nat → Bool} {ys : List Nat} : ∀ (m : Nat) (r : List Nat), firstR outs fits m r = some ys → ∃ pre, pre.length = m ∧ ys = (pre ++ r).reverse ∧ fits (pre ++ r) = true ∧ ∀ w ∈ pre, ∃ u, w ∈ outs u
  | 0, r, h => by
    rw [firstR] at h
    split at h
    · rename_i hf
      exact ⟨[], rfl, (Option.some.inj h).symm, hf, by simp⟩
    · cases h
  | m + 1, r, h => by
    rw [firstR] at h
    obtain ⟨w, hw, he⟩ := List.exists_of_findSome?_eq_some h
    obtain ⟨pre, h1, h2, h3, h4⟩ := firstR_some m (w :: r) he
    refine ⟨pre ++ [w], by simp [h1], by rw [h2]; simp, by simpa using h3, fun x hx => ?_⟩
    rcases List.mem_append.1 hx with hx | hx
    · exact h4 x hx
    · obtain rfl := List.mem_singleton.1 hx
      exact ⟨_, hw⟩
/-- What Least answers. -/
def LeastR (n : Nat) (l : List ArcI) (xs : List Int) (a b c v : Int) (far : Nat → Bool → Option Nat) (f : Bool) (ys : List Nat) : Prop :=
  (f = false ∧ ys = [] ∧ numF far v false < 0) ∨ (f = true ∧ ∃ k0 : Nat, numF far v false = (k0 : Int) ∧ firstR (outsD n (mxL l) xs) (fitsD n (mxL l) a b c v.toNat) (k0 - 1) [v.toNat] = some ys)
def LeastMPost (W : World) (n : Nat) (l : List ArcI) (xs : List Int) (a b c v : Int) (x : Value) (w' : World) : Prop :=
  ∃ far f ys A cA, x = .tuple #[.slice A ys.length cA, .bool f] ∧ Fr0 W w' ∧ FarOk n (fun v => decide ((v : Int) ∈ xs)) (refE n (mxL l) a b c) (fun u => decide ((u : Int) = v)) far ∧ LeastR n l xs a b c v far f ys ∧ ys.length ≤ 2 * n + 1 ∧ IntsAt w' A (natI ys)
theorem leastM_is {W : World} {r : Option Addr} {p pt n : Nat} {l J J' : List ArcI} {xs : List Int} {a b c t : Int} (hR : IsR W r (some ⟨p, 0, none⟩) (some ⟨pt, 0, none⟩)) (hG : GP W (some ⟨p, 0, none⟩) n J) (hGt : GP W (some ⟨pt, 0, none⟩) n J') (h1 : Built n l J) (h2 : Built n (turnL J n) J') (hT : Tab W) {g ga : Nat} (hI : IsBits W g ga 100 (putP 100 (fun _ => false) xs)) (hn : n ≤ 100) (hl : l.length ≤ 1000) (ht : (Lit.int .i64 t).wf = true) :
    Calls Tryd.prog 18 #[.pointer r, .pointer (some ⟨g, 0, none⟩), .agg #[.int .i64 a, .int .i64 b, .int .i64 c], .int .i64 t] W (Rets (LeastMPost W n l xs a b c t)) := by
  refine (leastL_is hR hG hGt h1 h2 hT hI hn hl ht).mono ?_
  rintro e w' ⟨_, rfl, hf, far, hF, h⟩
  rcases h with ⟨h, rfl⟩ | ⟨k0, ys, A, cA, hk, rfl, ho, hfi⟩
  · exact ⟨_, rfl, far, false, [], none, 0, rfl, hf, hF, .inl ⟨rfl, rfl, h⟩, by simp, by simp [natI], .inl rfl⟩
  · have hlen : ys.length ≤ 2 * n + 1 := by
      obtain ⟨pre, e1, e2, _⟩ := firstR_some _ _ hfi
      have : k0 < 2 * n := by
        unfold numF at hk
        split at hk
        · cases e : far t.toNat false with
          | none => rw [e] at hk; simp at hk; try omega
          | some k => rw [e] at hk; have := hF.lt e; simp at hk; omega
        · omega
      rw [e2]; simp; omega
    exact ⟨_, rfl, far, true, ys, A, cA, rfl, hf, hF, .inr ⟨rfl, k0, hk, hfi⟩, hlen, own_ints ho (by omega)⟩
def RefLPost (W : World) (f : Bool) (ys : List Nat) (x : Value) (w' : World) : Prop := ∃ A cA, x = .tuple #[.slice A ys.length cA, .bool f] ∧ Fr0 W w' ∧ IntsAt w' A (natI ys)
theorem refLeastL_is {W : World} {n cR d : Nat} {R B : Option Addr} {l : List ArcI} {xs : List Int} (hg : RefG W n R (mxL l)) (hx : IntsAt W B xs) {a b c v : Int} {far : Nat → Bool → Option Nat} (hn : n ≤ 100)
    (hF : FarOk n (fun v => decide ((v : Int) ∈ xs)) (refE n (mxL l) a b c) (fun u => decide ((u : Int) = v)) far) {f : Bool} {ys : List Nat} (hL : LeastR n l xs a b c v far f ys) :
    Calls Tryd.prog 19 #[.agg #[.int .i64 (n : Int), .slice R n cR], .slice B xs.length d, .agg #[.int .i64 a, .int .i64 b, .int .i64 c], .int .i64 v] W (Rets (RefLPost W f ys)) := by
  by_cases hv : 0 ≤ v ∧ v < (n : Int) ∧ v ∈ xs
  · obtain ⟨vn, rfl⟩ : ∃ vn : Nat, v = (vn : Int) := ⟨v.toNat, by omega⟩
    refine (RefLeast_in (o := if f then some ys else none) hg hx a b c (by omega) hv.2.2 hF (fun u d k e => Nat.le_of_lt (hF.lt e)) (by omega) ?_ ?_).mono ?_
    · intro e
      rcases hL with ⟨rfl, _, _⟩ | ⟨rfl, k0, hk, _⟩
      · rfl
      · rw [numF_enc, e] at hk; simp [encF] at hk; try omega
    · intro k0 e
      rcases hL with ⟨rfl, _, h⟩ | ⟨rfl, k1, hk, hfi⟩
      · rw [numF_enc, e] at h; simp [encF] at h; omega
      · rw [numF_enc, e] at hk
        have hkk : k1 = k0 := by simp [encF] at hk; omega
        subst hkk
        refine ⟨ys, rfl, ?_⟩
        rw [Int.toNat_natCast] at hfi
        rw [← hfi]
        exact firstR_congr (v := vn) (fun r h1 h2 => fitsQ_eq h1 h2) _ _ (by simp) rfl
    · rintro e w' ⟨x, rfl, h⟩
      rcases hL with ⟨rfl, rfl, _⟩ | ⟨rfl, _⟩
      · obtain ⟨rfl, hf⟩ := (show NilPost W x w' from h)
        exact ⟨_, rfl, none, 0, rfl, hf, by simp [natI], .inl rfl⟩
      · obtain ⟨A, c, rfl, hf, hi⟩ := (show SomePost W ys x w' from h)
        exact ⟨_, rfl, A, c, rfl, hf, hi⟩
  · refine (RefLeast_out hx a b c v hv).mono ?_
    have hneg : numF far v false < 0 := by
      unfold numF
      split
      · rename_i h0
        cases e : far v.toNat false with
        | none => simp
        | some k =>
          obtain ⟨h1, h2⟩ := hF.dom _ _ _ e
          rw [decide_eq_true_iff, Int.toNat_of_nonneg h0] at h2
          exact absurd ⟨h0, by omega, h2⟩ hv
      · omega
    rintro e w' ⟨x, rfl, rfl, hf⟩
    rcases hL with ⟨rfl, rfl, _⟩ | ⟨_, k0, hk, _⟩
    · exact ⟨_, rfl, none, 0, rfl, hf, by simp [natI], .inl rfl⟩
    · omega
end Go.Proofs.YtdcjfpjpboafnaaDoor
namespace Go.Proofs.YtdcjfpjpboafnaaDoor
set_option linter.all false
open Go.RowKit
set_option maxRecDepth 100000

theorem leastR_no {n : Nat} {l : List ArcI} {xs : List Int} {a b c v : Int} {far : Nat → Bool → Option Nat} {f : Bool} {ys : List Nat} (hL : LeastR n l xs a b c v far f ys) (h : numF far v false < 0) : f = false ∧ ys = [] := by
  rcases hL with ⟨h1, h2, _⟩ | ⟨_, k0, hk, _⟩
  · exact ⟨h1, h2⟩
  · omega
theorem fits_yes25 {n : Nat} {l : List ArcI} {xs : List Int} {a b c : Int} {vn k : Nat} {far : Nat → Bool → Option Nat} (hF : FarOk n (fun v => decide ((v : Int) ∈ xs)) (refE n (mxL l) a b c) (fun u => decide ((u : Int) = (vn : Int))) far) {f : Bool} {ys : List Nat} (hL : LeastR n l xs a b c (vn : Int) far f ys) (hk : far vn false = some k) :
    f = true ∧ ys.length = k ∧ 0 < k ∧ (natI ys).getD 0 0 = (vn : Int) ∧ (∀ x ∈ natI ys, x ∈ xs) ∧ fitsL (bitT a) (bitT b) (bitT c) ((List.range ys.length).map (mkM25 (maskR n (mxL l)) (natI ys))) = true := by
  rcases hL with ⟨_, _, h⟩ | ⟨h1, k0, hk0, hfi⟩
  · rw [numF_enc, hk] at h; simp [encF] at h; try omega
  · have hkk : k0 = k := by rw [numF_enc, hk] at hk0; simp [encF] at hk0; omega
    subst hkk
    have hpos : 0 < k0 := by
      rcases k0 with _ | k0
      · have := ((hF.zero vn false).1 hk).1
        cases this
      · omega
    rw [Int.toNat_natCast] at hfi
    obtain ⟨pre, e1, e2, e3, e4⟩ := firstR_some _ _ hfi
    have hlen : ys.length = k0 := by rw [e2]; simp; omega
    have hlast : (pre ++ [vn]).getLast? = some vn := by simp
    refine ⟨h1, hlen, hpos, ?_, ?_, ?_⟩
    · rw [e2]; simp [natI]
    · intro x hx
      obtain ⟨w, hw, rfl⟩ := List.mem_map.1 hx
      rw [e2, List.mem_reverse] at hw
      rcases List.mem_append.1 hw with hw | hw
      · obtain ⟨u, hu⟩ := e4 w hw
        simpa using (List.mem_filter.1 hu).2
      · obtain rfl := List.mem_singleton.1 hw
        simpa using (hF.dom _ _ _ hk).2
    · rw [← fitsQ_eq (by simp) hlast, fitsQ, ← e2] at e3
      have hl2 : (natI ys).length = ys.length := by simp [natI]
      cases hm : masksQ (maskR n (mxL l)) (natI ys) with
      | none => rw [hm] at e3; cases e3
      | some ms =>
        rw [hm] at e3
        unfold masksQ at hm
        split at hm
        · cases hm
        · rw [hl2] at hm
          rw [Option.some.inj hm]
          exact e3
theorem numF_yes {n : Nat} {l : List ArcI} {xs : List Int} {a b c v : Int} {far : Nat → Bool → Option Nat} (hF : FarOk n (fun v => decide ((v : Int) ∈ xs)) (refE n (mxL l) a b c) (fun u => decide ((u : Int) = v)) far) (h : ¬ numF far v false < 0) : ∃ vn k : Nat, v = (vn : Int) ∧ vn < n ∧ far vn false = some k := by
  by_cases h0 : 0 ≤ v
  · obtain ⟨vn, rfl⟩ : ∃ vn : Nat, v = (vn : Int) := ⟨v.toNat, by omega⟩
    rw [numF_enc] at h
    cases e : far vn false with
    | none => rw [e] at h; exact absurd (by decide) h
    | some k => exact ⟨vn, k, rfl, (hF.dom _ _ _ e).1, e⟩
  · exact absurd (by unfold numF; rw [if_neg h0]; omega) h
theorem numF_hi {n : Nat} {l : List ArcI} {xs : List Int} {a b c v : Int} {far : Nat → Bool → Option Nat} (hF : FarOk n (fun v => decide ((v : Int) ∈ xs)) (refE n (mxL l) a b c) (fun u => decide ((u : Int) = v)) far) (h : ¬ (0 ≤ v ∧ v < (n : Int))) : numF far v false < 0 := by
  by_cases h2 : numF far v false < 0
  · exact h2
  · obtain ⟨vn, k, rfl, h3, _⟩ := numF_yes hF h2
    omega
theorem farN_at (far : Nat → Bool → Option Nat) (d : Bool) {n v : Nat} (h : v < n) : (farN far d n).getD v 0 = encF (far v d) := by
  unfold farN
  rw [List.getD_eq_getElem?_getD, List.getElem?_map, List.getElem?_range h]
  rfl
def RefDPost (W : World) (n : Nat) (far : Nat → Bool → Option Nat) (v : Value) (w' : World) : Prop :=
  ∃ A B c d, v = .tuple #[.slice A n c, .slice B n d] ∧ Fr0 W w' ∧ IntsAt w' A (farN far false n) ∧ IntsAt w' B (farN far true n)
theorem refDist_ints {W : World} {n : Nat} {far : Nat → Bool → Option Nat} {f : Nat} {args : Array Value} (hn : n ≤ 1000) (h : Calls Tryd.prog f args W (Rets (RefDistPost W n far))) : Calls Tryd.prog f args W (Rets (RefDPost W n far)) := by
  refine h.mono ?_
  rintro e w' ⟨v, rfl, ba, bb, rfl, hf, h1, h2, _, _⟩
  exact ⟨_, rfl, _, _, _, _, rfl, hf, ints_lit h1 (by rw [farN_len]; omega), ints_lit h2 (by rw [farN_len]; omega)⟩
section
variable {ops : Array Oper} {o : Oper} {a : Act} {w : World} {K : Act → World → Prop} {Q : Exit → Act → World → Prop} {E : Prop}
/-- Append, at a step of a region that draws its order, with the slot told. -/
theorem step_append_at25 (dd : Nat) (hd : o.dst = some dd) (hgd : o.guard = none) (s x : Operand) (ho : o.op = .call { callee := .builtin .append, args := #[s, x], argTypes := #[33, 33] })
    {B c : Nat} {A : Option Addr} {v : Value} {xs ys : List Int} (hs : a.eval s = v) (hx : a.eval x = .slice A ys.length c) (hp : Plain A ys.length c) (hb : (xs.length + ys.length) * 8 ≤ 140737488355328)
    (hB : B ≤ w.heap.size) (hown : w.ownsRow B 3 1 v xs.length (intsI xs)) (hy : IntsAt w A ys)
    (h : ∀ v' w', w'.ownsRow B 3 1 v' (xs ++ ys).length (intsI (xs ++ ys)) → Fr (fun k => v.ownBlock = some k) w w' → K (a.put (some dd) v') w') :
    if Region.wanted o (yielded ops a.tmps) = true then Oper.wp Tryd.prog o a w K Q else E :=
  step_append_ints hgd s x ho hs hx hp hb hB hown hy (fun v' w' h1 h2 => by rw [hd]; exact h v' w' h1 h2)
end
end Go.Proofs.YtdcjfpjpboafnaaDoor
