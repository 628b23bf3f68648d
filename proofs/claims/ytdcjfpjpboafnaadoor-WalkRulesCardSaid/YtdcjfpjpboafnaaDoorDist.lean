/- Dist, DistWalk, DistFit, DistGo, in one text. -/

namespace Go.Proofs.YtdcjfpjpboafnaaDoor
set_option linter.all false

/-- Where one arc leads from a spot: plain ones ahead, one that is needed from ahead to behind, others behind. -/
def stepE (P N A : Nat → Nat → Bool) (v : Nat) (b : Bool) (w : Nat) (c : Bool) : Bool :=
  match b, c with
  | false, false => P v w
  | false, true => N v w
  | true, true => A v w
  | true, false => false
/-- What is known of how far spots are from one: it is right, and all is known. -/
structure FarOk (n : Nat) (pw : Nat → Bool) (E : Nat → Bool → Nat → Bool → Bool) (tt : Nat → Bool) (far : Nat → Bool → Option Nat) : Prop where
  zero : ∀ v b, far v b = some 0 ↔ (b = true ∧ tt v = true ∧ v < n ∧ pw v = true)
  dom : ∀ v b k, far v b = some k → v < n ∧ pw v = true
  step : ∀ v b k, far v b = some (k + 1) → ∃ w c, E v b w c = true ∧ far w c = some k
  up : ∀ w c k v b, far w c = some k → E v b w c = true → v < n → pw v = true → ∃ j, far v b = some j ∧ j ≤ k + 1
section
variable {n : Nat} {pw : Nat → Bool} {E : Nat → Bool → Nat → Bool → Bool} {tt : Nat → Bool} {far far' : Nat → Bool → Option Nat}
/-- There is one such knowledge. -/
theorem FarOk.le (h : FarOk n pw E tt far) (h' : FarOk n pw E tt far') : ∀ k v b, far v b = some k → ∃ j, far' v b = some j ∧ j ≤ k
  | 0, v, b, e => ⟨0, (h'.zero v b).2 ((h.zero v b).1 e), Nat.le_refl _⟩
  | k + 1, v, b, e => by
    obtain ⟨w, c, he, hw⟩ := h.step v b k e
    obtain ⟨j, hj, hle⟩ := FarOk.le h h' k w c hw
    obtain ⟨h1, h2⟩ := h.dom v b _ e
    obtain ⟨i, hi, hle2⟩ := h'.up w c j v b hj he h1 h2
    exact ⟨i, hi, by omega⟩
theorem FarOk.uniq (h : FarOk n pw E tt far) (h' : FarOk n pw E tt far') (v : Nat) (b : Bool) : far v b = far' v b := by
  cases e : far v b with
  | none =>
    cases e' : far' v b with
    | none => rfl
    | some k =>
      obtain ⟨j, hj, _⟩ := h'.le h k v b e'
      rw [e] at hj; cases hj
  | some k =>
    obtain ⟨j, hj, h1⟩ := h.le h' k v b e
    obtain ⟨i, hi, h2⟩ := h'.le h j v b hj
    rw [e] at hi
    cases hi
    have : j = k := by omega
    rw [hj, this]
/-- What is known of what is no farther. -/
def cutF (far : Nat → Bool → Option Nat) (m : Nat) (v : Nat) (b : Bool) : Option Nat := (far v b).filter (fun k => decide (k ≤ m))
theorem cutF_some {m v k : Nat} {b : Bool} : cutF far m v b = some k ↔ far v b = some k ∧ k ≤ m := by
  unfold cutF
  rw [Option.filter_eq_some_iff]
  simp
open Classical in
/-- One arc more: what the document's round makes of it. -/
theorem FarOk.round (h : FarOk n pw E tt far) (m v : Nat) (b : Bool) (hv : v < n) (hp : pw v = true) :
    cutF far (m + 1) v b = (cutF far m v b).or (if ∃ w c, w < n ∧ E v b w c = true ∧ cutF far m w c = some m then some (m + 1) else none) := by
  cases e : far v b with
  | none =>
    have h1 : cutF far (m + 1) v b = none := by simp [cutF, e]
    have h2 : cutF far m v b = none := by simp [cutF, e]
    rw [h1, h2, if_neg]
    · rfl
    · rintro ⟨w, c, _, he, hw⟩
      obtain ⟨j, hj, _⟩ := h.up w c m v b (cutF_some.1 hw).1 he hv hp
      rw [e] at hj; cases hj
  | some k =>
    by_cases hk : k ≤ m
    · have h1 : cutF far (m + 1) v b = some k := cutF_some.2 ⟨e, by omega⟩
      have h2 : cutF far m v b = some k := cutF_some.2 ⟨e, hk⟩
      rw [h1, h2]; rfl
    · have h2 : cutF far m v b = none := by
        cases hc : cutF far m v b with
        | none => rfl
        | some j =>
          have := cutF_some.1 hc
          rw [e] at this
          have := this.1
          injection this with this
          have := (cutF_some.1 hc).2
          omega
      rw [h2]
      by_cases hk1 : k = m + 1
      · subst hk1
        have h1 : cutF far (m + 1) v b = some (m + 1) := cutF_some.2 ⟨e, by omega⟩
        rw [h1, if_pos]
        · rfl
        · obtain ⟨w, c, he, hw⟩ := h.step v b m e
          exact ⟨w, c, (h.dom w c m hw).1, he, cutF_some.2 ⟨hw, Nat.le_refl _⟩⟩
      · have h1 : cutF far (m + 1) v b = none := by
          cases hc : cutF far (m + 1) v b with
          | none => rfl
          | some j =>
            have := (cutF_some.1 hc).1
            rw [e] at this
            injection this with this
            have := (cutF_some.1 hc).2
            omega
        rw [h1, if_neg]
        · rfl
        · rintro ⟨w, c, _, he, hw⟩
          obtain ⟨j, hj, hle⟩ := h.up w c m v b (cutF_some.1 hw).1 he hv hp
          rw [e] at hj
          injection hj with hj
          omega
theorem cutF_all {m : Nat} (hb : ∀ v b k, far v b = some k → k ≤ m) (v : Nat) (b : Bool) : cutF far m v b = far v b := by
  cases e : far v b with
  | none => simp [cutF, e]
  | some k => exact cutF_some.2 ⟨e, hb v b k e⟩
theorem cutF_zero (h : FarOk n pw E tt far) (v : Nat) (b : Bool) : cutF far 0 v b = if b = true ∧ tt v = true ∧ v < n ∧ pw v = true then some 0 else none := by
  split
  · rename_i hh
    exact cutF_some.2 ⟨(h.zero v b).2 hh, Nat.le_refl _⟩
  · rename_i hh
    cases hc : cutF far 0 v b with
    | none => rfl
    | some k =>
      obtain ⟨h1, h2⟩ := cutF_some.1 hc
      have : k = 0 := by omega
      subst this
      exact absurd ((h.zero v b).1 h1) hh
end
/-! ### The search: a queue of spots -/
/-- The search's state: what is known, what is still to be looked at, and how far that is that was looked at last. -/
structure DistQ (n : Nat) (pw : Nat → Bool) (E : Nat → Bool → Nat → Bool → Bool) (tt : Nat → Bool) (far : Nat → Bool → Option Nat) (q : List (Nat × Bool)) (L : Nat) : Prop where
  zero : ∀ v b, far v b = some 0 ↔ (b = true ∧ tt v = true ∧ v < n ∧ pw v = true)
  dom : ∀ v b k, far v b = some k → v < n ∧ pw v = true
  step : ∀ v b k, far v b = some (k + 1) → ∃ w c, E v b w c = true ∧ far w c = some k
  known : ∀ s ∈ q, ∃ k, far s.1 s.2 = some k ∧ L ≤ k
  top : ∀ v b k, far v b = some k → k ≤ L + 1
  rise : q.Pairwise (fun s t => ∀ i j, far s.1 s.2 = some i → far t.1 t.2 = some j → i ≤ j)
  up : ∀ w c k v b, far w c = some k → (w, c) ∉ q → E v b w c = true → v < n → pw v = true → ∃ j, far v b = some j ∧ j ≤ k + 1
section
variable {n : Nat} {pw : Nat → Bool} {E : Nat → Bool → Nat → Bool → Bool} {tt : Nat → Bool} {far : Nat → Bool → Option Nat} {q : List (Nat × Bool)} {L : Nat}
/-- Nothing left: all is known. -/
theorem DistQ.done (h : DistQ n pw E tt far [] L) : FarOk n pw E tt far := ⟨h.zero, h.dom, h.step, fun w c k v b hw he hv hp => h.up w c k v b hw (by simp) he hv hp⟩
/-- In the midst of looking at a spot that is k far: some of the spots that lead to it are known by now. -/
structure DistL (n : Nat) (pw : Nat → Bool) (E : Nat → Bool → Nat → Bool → Bool) (tt : Nat → Bool) (far : Nat → Bool → Option Nat) (q : List (Nat × Bool)) (x : Nat) (y : Bool) (k : Nat) (seen : Nat → Bool → Prop) : Prop where
  zero : ∀ v b, far v b = some 0 ↔ (b = true ∧ tt v = true ∧ v < n ∧ pw v = true)
  dom : ∀ v b k, far v b = some k → v < n ∧ pw v = true
  step : ∀ v b k, far v b = some (k + 1) → ∃ w c, E v b w c = true ∧ far w c = some k
  here : far x y = some k
  known : ∀ s ∈ q, ∃ i, far s.1 s.2 = some i ∧ k ≤ i
  top : ∀ v b i, far v b = some i → i ≤ k + 1
  rise : q.Pairwise (fun s t => ∀ i j, far s.1 s.2 = some i → far t.1 t.2 = some j → i ≤ j)
  up : ∀ w c i v b, far w c = some i → (w, c) ∉ q → ¬ (w = x ∧ c = y) → E v b w c = true → v < n → pw v = true → ∃ j, far v b = some j ∧ j ≤ i + 1
  seen : ∀ v b, seen v b → E v b x y = true → v < n → pw v = true → ∃ j, far v b = some j ∧ j ≤ k + 1
theorem DistQ.take {x : Nat} {y : Bool} (h : DistQ n pw E tt far ((x, y) :: q) L) (hnd : (x, y) ∉ q) : ∃ k, L ≤ k ∧ DistL n pw E tt far q x y k (fun _ _ => False) := by
  obtain ⟨k, hk, hL⟩ := h.known (x, y) (by simp)
  have hr := List.pairwise_cons.1 h.rise
  refine ⟨k, hL, h.zero, h.dom, h.step, hk, fun s hs => ?_, fun v b i hi => by have := h.top v b i hi; omega, hr.2, fun w c i v b hw hq hne he hv hp => ?_, fun v b hf => hf.elim⟩
  · obtain ⟨i, hi, _⟩ := h.known s (by simp [hs])
    exact ⟨i, hi, hr.1 s hs k i hk hi⟩
  · refine h.up w c i v b hw ?_ he hv hp
    intro hm
    rcases List.mem_cons.1 hm with hm | hm
    · injection hm with e1 e2; exact hne ⟨e1, e2⟩
    · exact hq hm
/-- All that lead to it are known: it is looked at. -/
theorem DistL.end_ {x : Nat} {y : Bool} {k : Nat} {seen : Nat → Bool → Prop} (h : DistL n pw E tt far q x y k seen) (hs : ∀ v b, E v b x y = true → v < n → pw v = true → seen v b) : DistQ n pw E tt far q k := by
  refine ⟨h.zero, h.dom, h.step, h.known, h.top, h.rise, fun w c i v b hw hq he hv hp => ?_⟩
  by_cases hxy : w = x ∧ c = y
  · obtain ⟨rfl, rfl⟩ := hxy
    obtain ⟨j, hj, hle⟩ := h.seen v b (hs v b he hv hp) he hv hp
    rw [h.here] at hw
    cases hw
    exact ⟨j, hj, hle⟩
  · exact h.up w c i v b hw hq hxy he hv hp
/-- One spot more that leads to it: put, if it is not known. -/
def putF (far : Nat → Bool → Option Nat) (v : Nat) (b : Bool) (m : Nat) (w : Nat) (c : Bool) : Option Nat := if w = v ∧ c = b then some m else far w c
theorem DistL.put {x : Nat} {y : Bool} {k : Nat} {seen : Nat → Bool → Prop} (h : DistL n pw E tt far q x y k seen) {v : Nat} {b : Bool} (hv : v < n) (hp : pw v = true) (he : E v b x y = true) (hno : far v b = none) :
    DistL n pw E tt (putF far v b (k + 1)) (q ++ [(v, b)]) x y k (fun w c => seen w c ∨ (w = v ∧ c = b)) := by
  have hne : ∀ {w c i}, far w c = some i → ¬ (w = v ∧ c = b) := by
    rintro w c i hw ⟨rfl, rfl⟩
    rw [hno] at hw; cases hw
  have old : ∀ {w c i}, far w c = some i → putF far v b (k + 1) w c = some i := fun hw => by
    unfold putF; rw [if_neg (hne hw)]; exact hw
  have inv : ∀ {w c i}, putF far v b (k + 1) w c = some i → (far w c = some i) ∨ (w = v ∧ c = b ∧ i = k + 1) := by
    intro w c i hw
    unfold putF at hw
    split at hw
    · rename_i hh; cases hw; exact .inr ⟨hh.1, hh.2, rfl⟩
    · exact .inl hw
  refine ⟨fun w c => ?_, fun w c i hw => ?_, fun w c i hw => ?_, old h.here, fun s hs => ?_, fun w c i hw => ?_, ?_, fun w c i u d hw hq hxy hE hu hpu => ?_, fun w c hsn hE hu hpu => ?_⟩
  · constructor
    · intro hw
      rcases inv hw with hw | ⟨_, _, hw⟩
      · exact (h.zero w c).1 hw
      · omega
    · intro hw; exact old ((h.zero w c).2 hw)
  · rcases inv hw with hw | ⟨rfl, rfl, _⟩
    · exact h.dom w c i hw
    · exact ⟨hv, hp⟩
  · rcases inv hw with hw | ⟨rfl, rfl, hi⟩
    · obtain ⟨u, d, h1, h2⟩ := h.step w c i hw
      exact ⟨u, d, h1, old h2⟩
    · have : i = k := by omega
      subst this
      exact ⟨x, y, he, old h.here⟩
  · rcases List.mem_append.1 hs with hs | hs
    · obtain ⟨i, hi, hle⟩ := h.known s hs
      exact ⟨i, old hi, hle⟩
    · rw [List.mem_singleton.1 hs]
      exact ⟨k + 1, by unfold putF; simp, by omega⟩
  · rcases inv hw with hw | ⟨_, _, hi⟩
    · exact h.top w c i hw
    · omega
  · rw [List.pairwise_append]
    refine ⟨?_, by simp, ?_⟩
    · refine h.rise.imp_of_mem (fun {s t} hs ht hst i j hi hj => ?_)
      obtain ⟨i', hi', _⟩ := h.known s hs
      obtain ⟨j', hj', _⟩ := h.known t ht
      have e1 := old hi'
      have e2 := old hj'
      rw [e1] at hi
      rw [e2] at hj
      cases hi
      cases hj
      exact hst _ _ hi' hj'
    · intro s hs t ht i j hi hj
      rw [List.mem_singleton.1 ht] at hj
      have : putF far v b (k + 1) v b = some (k + 1) := by unfold putF; simp
      rw [this] at hj
      cases hj
      obtain ⟨i', hi', _⟩ := h.known s hs
      have e1 := old hi'
      rw [e1] at hi
      cases hi
      exact h.top _ _ _ hi'
  · rcases inv hw with hw | ⟨rfl, rfl, _⟩
    · obtain ⟨j, hj, hle⟩ := h.up w c i u d hw (fun hm => hq (List.mem_append_left _ hm)) hxy hE hu hpu
      exact ⟨j, old hj, hle⟩
    · exact absurd (List.mem_append_right _ (by simp)) hq
  · rcases hsn with hsn | ⟨rfl, rfl⟩
    · obtain ⟨j, hj, hle⟩ := h.seen w c hsn hE hu hpu
      exact ⟨j, old hj, hle⟩
    · exact ⟨k + 1, by unfold putF; simp, Nat.le_refl _⟩
theorem DistL.skip {x : Nat} {y : Bool} {k : Nat} {seen : Nat → Bool → Prop} (h : DistL n pw E tt far q x y k seen) {v : Nat} {b : Bool} (hno : ∀ (_ : v < n) (_ : pw v = true), far v b ≠ none) :
    DistL n pw E tt far q x y k (fun w c => seen w c ∨ (w = v ∧ c = b)) := by
  refine ⟨h.zero, h.dom, h.step, h.here, h.known, h.top, h.rise, h.up, fun w c hsn hE hu hpu => ?_⟩
  rcases hsn with hsn | ⟨rfl, rfl⟩
  · exact h.seen w c hsn hE hu hpu
  · cases e : far w c with
    | none => exact absurd e (hno hu hpu)
    | some j => exact ⟨j, rfl, h.top w c j e⟩
end
end Go.Proofs.YtdcjfpjpboafnaaDoor
namespace Go.Proofs.YtdcjfpjpboafnaaDoor
set_option linter.all false

section
variable (E : Nat → Bool → Nat → Bool → Bool) (outs : Nat → List Nat) (v : Nat) (fits : List Nat → Bool)
/-- Where one may be behind a row of vertices (the last one first) that begins at v, ahead of the arc that is needed. -/
def frR : List Nat → Bool → Prop
  | [], _ => False
  | [w], c => w = v ∧ c = false
  | w :: u :: r, c => ∃ d, frR (u :: r) d ∧ E u d w c = true
/-- The first row of all, in order, with so many more vertices, that fits. -/
def firstR : Nat → List Nat → Option (List Nat)
  | 0, r => if fits r = true then some r.reverse else none
  | m + 1, r => (outs (r.headD 0)).findSome? (fun w => firstR m (w :: r))
variable {E outs v fits} {n : Nat} {pw : Nat → Bool} {far : Nat → Bool → Option Nat}
/-- May the row be gone on with, in just so many more vertices? -/
def goodR (E : Nat → Bool → Nat → Bool → Bool) (v : Nat) (far : Nat → Bool → Option Nat) (m : Nat) (r : List Nat) : Prop := ∃ c, frR E v r c ∧ far (r.headD 0) c = some (m + 1)
/-- No spot of the row is nearer than that. -/
def minR (E : Nat → Bool → Nat → Bool → Bool) (v : Nat) (far : Nat → Bool → Option Nat) (m : Nat) (r : List Nat) : Prop := ∀ c k, frR E v r c → far (r.headD 0) c = some k → m + 1 ≤ k
theorem minR.next {m w : Nat} {r : List Nat} (hF : FarOk n pw E (fun u => decide (u = v)) far) (hr : r ≠ []) (hin : r.headD 0 < n ∧ pw (r.headD 0) = true) (h : minR E v far (m + 1) r) : minR E v far m (w :: r) := by
  intro c k hc hk
  cases r with
  | nil => exact absurd rfl hr
  | cons u r =>
    obtain ⟨d, hd, he⟩ := hc
    obtain ⟨j, hj, hle⟩ := hF.up w c k u d hk he hin.1 hin.2
    have := h d j hd hj
    omega
/-- What fits: an arc leads back to where it began. -/
def FitR (E : Nat → Bool → Nat → Bool → Bool) (v : Nat) (fits : List Nat → Bool) : Prop := ∀ r, r ≠ [] → (fits r = true ↔ ∃ c, frR E v r c ∧ E (r.headD 0) c v true = true)
/-- Where arcs lead. -/
structure OutsR (n : Nat) (pw : Nat → Bool) (E : Nat → Bool → Nat → Bool → Bool) (outs : Nat → List Nat) : Prop where
  rise : ∀ u, (outs u).Pairwise (· < ·)
  lead : ∀ u d w c, E u d w c = true → w < n → pw w = true → w ∈ outs u
  inn : ∀ u w, w ∈ outs u → w < n ∧ pw w = true
theorem first_good (hF : FarOk n pw E (fun u => decide (u = v)) far) (hfit : FitR E v fits) (hO : OutsR n pw E outs) (hv : v < n) (hpv : pw v = true) :
    ∀ (m : Nat) (r : List Nat), r ≠ [] → r.headD 0 < n ∧ pw (r.headD 0) = true → minR E v far m r → ((firstR outs fits m r).isSome = true ↔ goodR E v far m r)
  | 0, r, hr, hin, hmin => by
    rw [firstR]
    constructor
    · intro h
      split at h
      · rename_i hf
        obtain ⟨c, hc, he⟩ := (hfit r hr).1 hf
        obtain ⟨j, hj, hle⟩ := hF.up v true 0 (r.headD 0) c ((hF.zero v true).2 ⟨rfl, by simp, hv, hpv⟩) he hin.1 hin.2
        have := hmin c j hc hj
        exact ⟨c, hc, by rw [hj]; congr 1; omega⟩
      · cases h
    · rintro ⟨c, hc, hk⟩
      obtain ⟨w, d, he, hw⟩ := hF.step _ _ _ hk
      obtain ⟨rfl, h2, _⟩ := (hF.zero w d).1 hw
      have : w = v := by simpa using h2
      subst this
      rw [if_pos ((hfit r hr).2 ⟨c, hc, he⟩)]
      rfl
  | m + 1, r, hr, hin, hmin => by
    rw [firstR]
    cases r with
    | nil => exact absurd rfl hr
    | cons u r =>
      have ih := fun w (hw : w ∈ outs u) => first_good hF hfit hO hv hpv m (w :: u :: r) (by simp) (hO.inn u w hw) (minR.next hF hr hin hmin)
      constructor
      · intro h
        obtain ⟨x, hx⟩ := Option.isSome_iff_exists.1 h
        obtain ⟨w, hw, he⟩ := List.exists_of_findSome?_eq_some hx
        obtain ⟨c, ⟨d, hd, hE⟩, hk⟩ := (ih w hw).1 (by rw [he]; rfl)
        obtain ⟨j, hj, hle⟩ := hF.up w c (m + 1) u d hk hE hin.1 hin.2
        have := hmin d j hd hj
        exact ⟨d, hd, by show far u d = _; rw [hj]; congr 1; omega⟩
      · rintro ⟨c, hc, hk⟩
        obtain ⟨w, d, he, hw⟩ := hF.step _ _ _ hk
        have hin2 := hF.dom w d _ hw
        have hwo := hO.lead _ _ _ _ he hin2.1 hin2.2
        have hs := (ih w hwo).2 ⟨d, ⟨c, hc, he⟩, hw⟩
        obtain ⟨x, hx⟩ := Option.isSome_iff_exists.1 hs
        rw [Option.isSome_iff_ne_none]
        intro hn
        have := List.findSome?_eq_none_iff.1 hn w hwo
        rw [hx] at this
        cases this
/-- The least vertex by which one may go on. -/
theorem first_step (hF : FarOk n pw E (fun u => decide (u = v)) far) (hfit : FitR E v fits) (hO : OutsR n pw E outs) (hv : v < n) (hpv : pw v = true) {m u w : Nat} {r : List Nat}
    (hin : u < n ∧ pw u = true) (hmin : minR E v far (m + 1) (u :: r)) (hw : w ∈ outs u) (hg : goodR E v far m (w :: u :: r)) (hleast : ∀ x ∈ outs u, x < w → ¬ goodR E v far m (x :: u :: r)) :
    firstR outs fits (m + 1) (u :: r) = firstR outs fits m (w :: u :: r) := by
  rw [firstR]
  have ih := fun x (hx : x ∈ outs u) => first_good hF hfit hO hv hpv m (x :: u :: r) (by simp) (hO.inn u x hx) (minR.next hF (by simp) hin hmin)
  obtain ⟨l1, l2, e⟩ := List.append_of_mem hw
  have hr := hO.rise u
  show (outs u).findSome? _ = _
  rw [e] at hr ih hleast ⊢
  have h1 : ∀ x ∈ l1, firstR outs fits m (x :: u :: r) = none := fun x hx => by
    have hlt : x < w := (List.pairwise_append.1 hr).2.2 x hx w (by simp)
    have hm : x ∈ l1 ++ w :: l2 := List.mem_append_left _ hx
    cases hc : firstR outs fits m (x :: u :: r) with
    | none => rfl
    | some y => exact absurd ((ih x hm).1 (by rw [hc]; rfl)) (hleast x hm hlt)
  have hs := (ih w (by simp)).2 hg
  obtain ⟨y, hy⟩ := Option.isSome_iff_exists.1 hs
  rw [List.findSome?_append, List.findSome?_eq_none_iff.2 h1, List.findSome?_cons, hy]
  rfl
/-- No closed walk is shorter than that. -/
theorem first_none (hF : FarOk n pw E (fun u => decide (u = v)) far) (hfit : FitR E v fits) (hO : OutsR n pw E outs) (hv : v < n) (hpv : pw v = true) {k m : Nat} (hk : far v false = some k) (hm : m + 1 < k) : firstR outs fits m [v] = none := by
  have key : ∀ (m : Nat) (r : List Nat) (j : Nat), r ≠ [] → r.headD 0 < n ∧ pw (r.headD 0) = true → (∀ c i, frR E v r c → far (r.headD 0) c = some i → j + m + 1 < i + j) → (∀ c, frR E v r c → (far (r.headD 0) c).isSome = true → True) → firstR outs fits m r = none := by
    intro m
    induction m with
    | zero =>
      intro r j hr hin h _
      rw [firstR]
      split
      · rename_i hf
        obtain ⟨c, hc, he⟩ := (hfit r hr).1 hf
        obtain ⟨i, hi, hle⟩ := hF.up v true 0 (r.headD 0) c ((hF.zero v true).2 ⟨rfl, by simp, hv, hpv⟩) he hin.1 hin.2
        have := h c i hc hi
        omega
      · rfl
    | succ m ih =>
      intro r j hr hin h _
      rw [firstR, List.findSome?_eq_none_iff]
      intro w hw
      refine ih (w :: r) j (by simp) ?_ ?_ (fun _ _ _ => trivial)
      · exact hO.inn _ w hw
      · intro c i hc hi
        cases r with
        | nil => exact absurd rfl hr
        | cons u r =>
          obtain ⟨d, hd, he⟩ := hc
          obtain ⟨i', hi', hle⟩ := hF.up w c i u d hi he hin.1 hin.2
          have := h d i' hd hi'
          omega
  refine key m [v] 0 (by simp) ⟨hv, hpv⟩ ?_ (fun _ _ _ => trivial)
  intro c i hc hi
  obtain ⟨_, rfl⟩ := hc
  have : far v false = some i := hi
  rw [hk] at this
  cases this
  omega
end
/-! ### masks of a row, against the rule -/
/-- The document's test: one arc is needed, plain ones ahead, others behind. -/
def fitsL (P N A : Int → Bool) (ms : List Int) : Bool := (List.range ms.length).any (fun k => N (ms.getD k 0) && ((ms.take k).all P && (ms.drop (k + 1)).all A))
/-- Behind some arcs: ahead, if all were plain; behind, if they fit. -/
theorem fitsL_snoc (P N A : Int → Bool) (ms : List Int) (m : Int) : fitsL P N A (ms ++ [m]) = ((fitsL P N A ms && A m) || (ms.all P && N m)) := by
  unfold fitsL
  rw [List.length_append, List.length_singleton, List.range_succ, List.any_append]
  congr 1
  · have : ∀ k ∈ List.range ms.length, (N ((ms ++ [m]).getD k 0) && (((ms ++ [m]).take k).all P && ((ms ++ [m]).drop (k + 1)).all A)) = ((N (ms.getD k 0) && ((ms.take k).all P && (ms.drop (k + 1)).all A)) && A m) := by
      intro k hk
      have hk := List.mem_range.1 hk
      rw [List.getD_eq_getElem?_getD, List.getElem?_append_left hk, ← List.getD_eq_getElem?_getD, List.take_append_of_le_length (by omega), List.drop_append_of_le_length (by omega), List.all_append]
      simp [Bool.and_assoc]
    rw [Bool.eq_iff_iff, Bool.and_eq_true, List.any_eq_true, List.any_eq_true]
    constructor
    · rintro ⟨k, hk, h⟩
      rw [this k hk, Bool.and_eq_true] at h
      exact ⟨⟨k, hk, h.1⟩, h.2⟩
    · rintro ⟨⟨k, hk, h1⟩, h2⟩
      exact ⟨k, hk, by rw [this k hk, h1, h2]; rfl⟩
  · simp only [List.any_cons, List.any_nil, Bool.or_false]
    rw [List.getD_eq_getElem?_getD, List.getElem?_append_right (Nat.le_refl _), Nat.sub_self, List.take_left']
    · simp [Bool.and_comm]
    · rfl
end Go.Proofs.YtdcjfpjpboafnaaDoor
namespace Go.Proofs.YtdcjfpjpboafnaaDoor
set_option linter.all false

section
variable (M : Nat → Nat → Int) (P N A : Int → Bool) (v : Nat)
/-- The arcs of a rule, by the masks. -/
def ruleE : Nat → Bool → Nat → Bool → Bool := stepE (fun u w => P (M u w)) (fun u w => N (M u w)) (fun u w => A (M u w))
/-- The masks along a row (the last vertex first). -/
def alongR : List Nat → List Int
  | [] => []
  | [_] => []
  | w :: u :: r => alongR (u :: r) ++ [M u w]
/-- .. and back to where it began. -/
def closedR (r : List Nat) : List Int := alongR M r ++ [M (r.headD 0) v]
variable {M P N A v}
theorem fr_along : ∀ (r : List Nat), r ≠ [] → r.getLast? = some v →
    (frR (ruleE M P N A) v r false ↔ (alongR M r).all P = true) ∧ (frR (ruleE M P N A) v r true ↔ fitsL P N A (alongR M r) = true)
  | [], h, _ => absurd rfl h
  | [w], _, hl => by
    have : w = v := by simpa using hl
    subst this
    constructor
    · simp [frR, alongR]
    · simp [frR, alongR, fitsL]
  | w :: u :: r, _, hl => by
    have ih := fr_along (u :: r) (by simp) (by simpa using hl)
    constructor
    · rw [alongR, List.all_append, Bool.and_eq_true, ← ih.1]
      constructor
      · rintro ⟨d, hd, he⟩
        cases d with
        | false => exact ⟨hd, by simpa [ruleE, stepE] using he⟩
        | true => simp [ruleE, stepE] at he
      · rintro ⟨hd, he⟩
        exact ⟨false, hd, by simpa [ruleE, stepE] using he⟩
    · rw [alongR, fitsL_snoc, Bool.or_eq_true, Bool.and_eq_true, Bool.and_eq_true, ← ih.1, ← ih.2]
      constructor
      · rintro ⟨d, hd, he⟩
        cases d with
        | false => exact .inr ⟨hd, by simpa [ruleE, stepE] using he⟩
        | true => exact .inl ⟨hd, by simpa [ruleE, stepE] using he⟩
      · rintro (⟨hd, he⟩ | ⟨hd, he⟩)
        · exact ⟨true, hd, by simpa [ruleE, stepE] using he⟩
        · exact ⟨false, hd, by simpa [ruleE, stepE] using he⟩
theorem fr_last : ∀ (r : List Nat) (c : Bool), frR (ruleE M P N A) v r c → r.getLast? = some v
  | [], _, h => h.elim
  | [w], c, h => by rw [h.1]; rfl
  | w :: u :: r, c, h => by
    obtain ⟨d, hd, _⟩ := h
    have := fr_last (u :: r) d hd
    simpa using this
/-- A row that begins at v fits just if the masks of its arcs, and of the one that leads back, do. -/
theorem fitR_closed : FitR (ruleE M P N A) v (fun r => decide (r.getLast? = some v) && fitsL P N A (closedR M v r)) := by
  intro r hr
  rw [Bool.and_eq_true, decide_eq_true_eq]
  unfold closedR
  rw [fitsL_snoc, Bool.or_eq_true, Bool.and_eq_true, Bool.and_eq_true]
  constructor
  · rintro ⟨hl, h⟩
    have hf := fr_along (M := M) (P := P) (N := N) (A := A) r hr hl
    rcases h with ⟨h1, h2⟩ | ⟨h1, h2⟩
    · exact ⟨true, hf.2.2 h1, by simpa [ruleE, stepE] using h2⟩
    · exact ⟨false, hf.1.2 h1, by simpa [ruleE, stepE] using h2⟩
  · rintro ⟨c, hc, he⟩
    have hl := fr_last r c hc
    have hf := fr_along (M := M) (P := P) (N := N) (A := A) r hr hl
    refine ⟨hl, ?_⟩
    cases c with
    | true => exact .inl ⟨hf.2.1 hc, by simpa [ruleE, stepE] using he⟩
    | false => exact .inr ⟨hf.1.1 hc, by simpa [ruleE, stepE] using he⟩
/-- The masks of a row's arcs, told by places: each vertex, and the next one; behind the last one the first one. -/
def ringM (M : Nat → Nat → Int) (b : List Nat) : List Int := (List.range b.length).map (fun k => M (b.getD k 0) (b.getD ((k + 1) % b.length) 0))
def pathM (M : Nat → Nat → Int) (b : List Nat) : List Int := (List.range (b.length - 1)).map (fun k => M (b.getD k 0) (b.getD (k + 1) 0))
theorem along_path : ∀ (r : List Nat), alongR M r = pathM M r.reverse
  | [] => rfl
  | [w] => rfl
  | w :: u :: r => by
    rw [alongR, along_path (u :: r)]
    unfold pathM
    have e1 : (w :: u :: r).reverse = (u :: r).reverse ++ [w] := by simp
    have hl : (u :: r).reverse.length = r.length + 1 := by simp
    rw [e1, List.length_append, List.length_singleton, Nat.add_sub_cancel]
    generalize hb : (u :: r).reverse = b at *
    have hpos : 0 < b.length := by omega
    have e2 : b.length = (b.length - 1) + 1 := by omega
    have hlast : b.getD (b.length - 1) 0 = u := by
      rw [← hb, List.getD_eq_getElem?_getD, List.getElem?_reverse (by simp)]
      simp
    conv => rhs; rw [e2, List.range_succ, List.map_append]
    congr 1
    · refine List.map_congr_left fun k hk => ?_
      have hk := List.mem_range.1 hk
      rw [List.getD_eq_getElem?_getD, List.getD_eq_getElem?_getD, List.getD_eq_getElem?_getD, List.getD_eq_getElem?_getD, List.getElem?_append_left (by omega), List.getElem?_append_left (by omega)]
    · simp only [List.map_cons, List.map_nil]
      rw [List.getD_eq_getElem?_getD, List.getElem?_append_left (by omega), ← List.getD_eq_getElem?_getD, hlast, ← e2, List.getD_eq_getElem?_getD, List.getElem?_append_right (Nat.le_refl _)]
      simp
theorem closed_ring {r : List Nat} (hr : r ≠ []) (hl : r.getLast? = some v) : closedR M v r = ringM M r.reverse := by
  unfold closedR
  rw [along_path]
  unfold pathM ringM
  have hlen : r.reverse.length = r.length := List.length_reverse
  have hpos : 0 < r.length := List.length_pos_iff.2 hr
  have hh : r.headD 0 = r.reverse.getD (r.length - 1) 0 := by
    cases r with
    | nil => exact absurd rfl hr
    | cons w r =>
      rw [List.getD_eq_getElem?_getD, List.getElem?_reverse (by simp)]
      simp
  have h0 : r.reverse.getD 0 0 = v := by
    rw [List.getD_eq_getElem?_getD, ← List.head?_eq_getElem?, List.head?_reverse, hl]; rfl
  rw [hh]
  rw [← hlen] at hpos ⊢
  generalize r.reverse = b at *
  have e2 : b.length = (b.length - 1) + 1 := by omega
  conv => rhs; rw [e2, List.range_succ, List.map_append]
  rw [← e2]
  congr 1
  · refine List.map_congr_left fun k hk => ?_
    have hk := List.mem_range.1 hk
    rw [Nat.mod_eq_of_lt (by omega)]
  · simp only [List.map_cons, List.map_nil]
    rw [← e2, Nat.mod_self, h0]
end
end Go.Proofs.YtdcjfpjpboafnaaDoor
namespace Go.Proofs.YtdcjfpjpboafnaaDoor
set_option linter.all false

section
variable {E : Nat → Bool → Nat → Bool → Bool} {outs : Nat → List Nat} {v n : Nat} {fits : List Nat → Bool} {pw : Nat → Bool} {far : Nat → Bool → Option Nat}
/-- The spots where one may be: behind the row, so far from its end. -/
def SpotsR (E : Nat → Bool → Nat → Bool → Bool) (v : Nat) (far : Nat → Bool → Option Nat) (k : Nat) (r : List Nat) (l : List (Nat × Bool)) : Prop := ∀ w c, (w, c) ∈ l ↔ w = r.headD 0 ∧ frR E v r c ∧ far (r.headD 0) c = some k
theorem spots_start {k : Nat} (hk : far v false = some k) : SpotsR E v far k [v] [(v, false)] := by
  intro w c
  simp only [List.mem_singleton, Prod.mk.injEq, List.headD_cons, frR]
  constructor
  · rintro ⟨rfl, rfl⟩; exact ⟨rfl, ⟨by first | rfl | trivial, rfl⟩, hk⟩
  · rintro ⟨rfl, ⟨_, rfl⟩, _⟩; exact ⟨rfl, rfl⟩
theorem min_start {k : Nat} (hk : far v false = some (k + 1)) : minR E v far k [v] := by
  intro c j hc hj
  obtain ⟨_, rfl⟩ := hc
  have : far v false = some j := hj
  rw [hk] at this
  cases this
  exact Nat.le_refl _
/-- One step: the least vertex that comes next, and its spots. -/
theorem walk_step (hF : FarOk n pw E (fun u => decide (u = v)) far) (hfit : FitR E v fits) (hO : OutsR n pw E outs) (hv : v < n) (hpv : pw v = true) {m u : Nat} {r : List Nat} {l all : List (Nat × Bool)}
    (hin : u < n ∧ pw u = true) (hmin : minR E v far (m + 1) (u :: r)) (hl : SpotsR E v far (m + 2) (u :: r) l) (hne : l ≠ [])
    (hall : ∀ w c, (w, c) ∈ all ↔ ∃ s ∈ l, E s.1 s.2 w c = true ∧ far w c = some (m + 1)) {best : Nat} (hb : all ≠ [] → ∃ c, (best, c) ∈ all) (hle : ∀ w c, (w, c) ∈ all → best ≤ w) :
    firstR outs fits (m + 1) (u :: r) = firstR outs fits m (best :: u :: r) ∧ minR E v far m (best :: u :: r) ∧ (best < n ∧ pw best = true) ∧
    (∀ l' : List (Nat × Bool), (∀ w c, (w, c) ∈ l' ↔ (w, c) ∈ all ∧ w = best) → SpotsR E v far (m + 1) (best :: u :: r) l' ∧ l' ≠ []) := by
  have hsome : all ≠ [] := by
    obtain ⟨⟨w0, c0⟩, h0⟩ := List.exists_mem_of_ne_nil l hne
    obtain ⟨rfl, h1, h2⟩ := (hl w0 c0).1 h0
    obtain ⟨w, d, he, hw⟩ := hF.step _ _ _ h2
    have : (w, d) ∈ all := (hall w d).2 ⟨_, h0, he, hw⟩
    exact List.ne_nil_of_mem this
  have hmem : ∀ w c, (w, c) ∈ all ↔ frR E v (w :: u :: r) c ∧ far w c = some (m + 1) := by
    intro w c
    rw [hall]
    constructor
    · rintro ⟨⟨w0, c0⟩, h0, he, hw⟩
      obtain ⟨rfl, h1, h2⟩ := (hl w0 c0).1 h0
      exact ⟨⟨c0, h1, he⟩, hw⟩
    · rintro ⟨⟨d, hd, he⟩, hw⟩
      obtain ⟨j, hj, hjl⟩ := hF.up w c (m + 1) u d hw he hin.1 hin.2
      have := hmin d j hd hj
      refine ⟨(u, d), (hl u d).2 ⟨rfl, hd, ?_⟩, he, hw⟩
      show far u d = _
      rw [hj]; congr 1; omega
  obtain ⟨c, hc⟩ := hb hsome
  obtain ⟨⟨d, hd, he⟩, hw⟩ := (hmem best c).1 hc
  have hbin := hF.dom best c _ hw
  have hbo := hO.lead u d best c he hbin.1 hbin.2
  refine ⟨first_step hF hfit hO hv hpv hin hmin hbo ⟨c, ⟨d, hd, he⟩, hw⟩ (fun x hx hlt => ?_), minR.next hF (by simp) hin hmin, hbin, fun l' hl' => ⟨fun w c' => ?_, ?_⟩⟩
  · rintro ⟨c', hc', hk'⟩
    have := hle x c' ((hmem x c').2 ⟨hc', hk'⟩)
    omega
  · rw [hl', hmem]
    constructor
    · rintro ⟨⟨h1, h2⟩, rfl⟩; exact ⟨rfl, h1, h2⟩
    · rintro ⟨rfl, h1, h2⟩; exact ⟨⟨h1, h2⟩, rfl⟩
  · exact List.ne_nil_of_mem ((hl' best c).2 ⟨hc, rfl⟩)
/-- At the end: the row fits. -/
theorem walk_end (hF : FarOk n pw E (fun u => decide (u = v)) far) (hfit : FitR E v fits) {u : Nat} {r : List Nat} {l : List (Nat × Bool)} (hl : SpotsR E v far 1 (u :: r) l) (hne : l ≠ []) : fits (u :: r) = true ∧ firstR outs fits 0 (u :: r) = some (u :: r).reverse := by
  obtain ⟨⟨w0, c0⟩, h0⟩ := List.exists_mem_of_ne_nil l hne
  obtain ⟨e0, h1, h2⟩ := (hl w0 c0).1 h0
  obtain ⟨w, d, he, hw⟩ := hF.step _ _ _ h2
  obtain ⟨rfl, h3, _⟩ := (hF.zero w d).1 hw
  have e1 : w = v := by simpa using h3
  rw [e1] at he
  have hf := (hfit (u :: r) (by simp)).2 ⟨c0, h1, he⟩
  exact ⟨hf, by rw [firstR, if_pos hf]⟩
end
end Go.Proofs.YtdcjfpjpboafnaaDoor
