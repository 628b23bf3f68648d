/- FindPure, Find, in one text. -/
import Derived.Test.YtdcjfpjpboafnaaDoorLook
import Derived.Deep.CutRange
namespace Go.Proofs.YtdcjfpjpboafnaaDoor
set_option linter.all false

/-- What the search stands on between two looks. -/
structure FindQ (n : Nat) (pw : Nat → Bool) (E : Nat → Bool → Nat → Bool → Bool) (tt : Nat → Bool) (far : Nat → Bool → Option Nat) (l : List (Nat × Bool)) (L : Nat) : Prop where
  dist : DistQ n pw E tt far l L
  nodup : l.Nodup
  bnd : ∀ v b k, far v b = some k → k + 1 ≤ kntF n far
section
variable {n : Nat} {pw : Nat → Bool} {E : Nat → Bool → Nat → Bool → Bool} {tt : Nat → Bool} {far : Nat → Bool → Option Nat} {l : List (Nat × Bool)} {L : Nat}
/-- In the midst of a look. -/
structure FindL (n : Nat) (pw : Nat → Bool) (E : Nat → Bool → Nat → Bool → Bool) (tt : Nat → Bool) (s : (Nat → Bool → Option Nat) × List (Nat × Bool)) (x : Nat) (y : Bool) (k : Nat) (seen : Nat → Bool → Prop) : Prop where
  dist : DistL n pw E tt s.1 s.2 x y k seen
  nodup : s.2.Nodup
  bnd : ∀ v b k, s.1 v b = some k → k + 1 ≤ kntF n s.1
theorem FindL.put {s : (Nat → Bool → Option Nat) × List (Nat × Bool)} {x : Nat} {y : Bool} {k : Nat} {seen : Nat → Bool → Prop} (h : FindL n pw E tt s x y k seen) (hpw : ∀ u, pw u = true → u < n) {v : Int} {d : Bool} (hv : ∃ w : Nat, v = (w : Int) ∧ E w d x y = true) :
    FindL n pw E tt (putS pw d (k + 1) s v) x y k (fun w c => seen w c ∨ ((w : Int) = v ∧ c = d)) ∧ (putS pw d (k + 1) s v).2.length + kntF n s.1 = s.2.length + kntF n (putS pw d (k + 1) s v).1 := by
  obtain ⟨w, rfl, hE⟩ := hv
  have hin : inW pw (w : Int) = pw w := by simp [inW]
  unfold putS freshF
  rw [hin, Int.toNat_natCast]
  cases hp : pw w with
  | false =>
    simp only [Bool.false_and, Bool.false_eq_true, if_false]
    refine ⟨⟨?_, h.nodup, h.bnd⟩, trivial⟩
    have := h.dist.skip (v := w) (b := d) (fun _ e => by rw [hp] at e; cases e)
    exact ⟨this.zero, this.dom, this.step, this.here, this.known, this.top, this.rise, this.up, fun v b hs => this.seen v b (hs.imp id (fun ⟨e1, e2⟩ => ⟨by omega, e2⟩))⟩
  | true =>
    cases hf : s.1 w d with
    | some j =>
      simp only [Option.isNone_some, Bool.and_false, Bool.false_eq_true, if_false]
      refine ⟨⟨?_, h.nodup, h.bnd⟩, trivial⟩
      have := h.dist.skip (v := w) (b := d) (fun _ _ e => by rw [hf] at e; cases e)
      exact ⟨this.zero, this.dom, this.step, this.here, this.known, this.top, this.rise, this.up, fun v b hs => this.seen v b (hs.imp id (fun ⟨e1, e2⟩ => ⟨by omega, e2⟩))⟩
    | none =>
      simp only [Option.isNone_none, Bool.and_true, if_true]
      have hk := kntF_put (m := k + 1) (hpw w hp) hf
      have := h.dist.put (hpw w hp) hp hE hf
      refine ⟨⟨⟨this.zero, this.dom, this.step, this.here, this.known, this.top, this.rise, this.up, fun v b hs => this.seen v b (hs.imp id (fun ⟨e1, e2⟩ => ⟨by omega, e2⟩))⟩, ?_, ?_⟩, ?_⟩
      · rw [List.nodup_append]
        refine ⟨h.nodup, by simp, fun a ha b hb e => ?_⟩
        simp only [List.mem_singleton] at hb
        subst hb
        subst e
        obtain ⟨i, hi, _⟩ := h.dist.known _ ha
        simp only [hf] at hi
        cases hi
      · intro v b i hi
        rw [hk]
        simp only [putF] at hi
        split at hi
        · cases hi
          have := h.bnd _ _ _ h.dist.here
          omega
        · have := h.bnd _ _ _ hi
          omega
      · rw [hk, List.length_append, List.length_singleton]; omega
theorem FindL.weak {s : (Nat → Bool → Option Nat) × List (Nat × Bool)} {x : Nat} {y : Bool} {k : Nat} {seen seen' : Nat → Bool → Prop} (h : FindL n pw E tt s x y k seen) (hs : ∀ v b, seen' v b → seen v b) : FindL n pw E tt s x y k seen' :=
  ⟨⟨h.dist.zero, h.dist.dom, h.dist.step, h.dist.here, h.dist.known, h.dist.top, h.dist.rise, h.dist.up, fun v b k => h.dist.seen v b (hs v b k)⟩, h.nodup, h.bnd⟩
theorem FindL.puts {s : (Nat → Bool → Option Nat) × List (Nat × Bool)} {x : Nat} {y : Bool} {k : Nat} {seen : Nat → Bool → Prop} (h : FindL n pw E tt s x y k seen) (hpw : ∀ u, pw u = true → u < n) {d : Bool} : ∀ (xs : List Int), (∀ v ∈ xs, ∃ w : Nat, v = (w : Int) ∧ E w d x y = true) →
    FindL n pw E tt (putsS pw d (k + 1) s xs) x y k (fun w c => seen w c ∨ ((w : Int) ∈ xs ∧ c = d)) ∧ (putsS pw d (k + 1) s xs).2.length + kntF n s.1 = s.2.length + kntF n (putsS pw d (k + 1) s xs).1 := by
  intro xs
  induction xs generalizing s seen with
  | nil => intro _; exact ⟨h.weak (fun v b hs => hs.elim id (fun e => by cases e.1)), rfl⟩
  | cons v xs ih =>
    intro hx
    obtain ⟨h1, h2⟩ := h.put hpw (hx v (by simp))
    obtain ⟨h3, h4⟩ := ih h1 (fun v hv => hx v (by simp [hv]))
    refine ⟨h3.weak ?_, by simp only [putsS, List.foldl_cons] at h4 ⊢; omega⟩
    rintro u b (hs | ⟨hs, e⟩)
    · exact .inl (.inl hs)
    · rcases List.mem_cons.1 hs with hs | hs
      · exact .inl (.inr ⟨hs, e⟩)
      · exact .inr ⟨hs, e⟩
theorem FindQ.take {x : Nat} {y : Bool} (h : FindQ n pw E tt far ((x, y) :: l) L) : ∃ k, far x y = some k ∧ k + 1 ≤ kntF n far ∧ FindL n pw E tt (far, l) x y k (fun _ _ => False) := by
  obtain ⟨k, _, hk⟩ := h.dist.take (List.nodup_cons.1 h.nodup).1
  exact ⟨k, hk.here, h.bnd _ _ _ hk.here, hk, (List.nodup_cons.1 h.nodup).2, h.bnd⟩
theorem FindL.end_ {s : (Nat → Bool → Option Nat) × List (Nat × Bool)} {x : Nat} {y : Bool} {k : Nat} {seen : Nat → Bool → Prop} (h : FindL n pw E tt s x y k seen) (hs : ∀ v b, E v b x y = true → v < n → pw v = true → seen v b) : FindQ n pw E tt s.1 s.2 k :=
  ⟨h.dist.end_ hs, h.nodup, h.bnd⟩
end
section
variable {n : Nat} {pw : Nat → Bool} {P N A : Nat → Nat → Bool} {tt : Nat → Bool} {far : Nat → Bool → Option Nat} {l : List (Nat × Bool)} {k u : Nat}
/-- What a set's neighbours are. -/
def InOf (pw : Nat → Bool) (R : Nat → Nat → Bool) (u : Nat) (xs : List Int) : Prop := (∀ v ∈ xs, ∃ w : Nat, v = (w : Int) ∧ R w u = true) ∧ ∀ w : Nat, R w u = true → pw w = true → (w : Int) ∈ xs
theorem look_no_q (h : FindL n pw (stepE P N A) tt (far, l) u false k (fun _ _ => False)) (hpw : ∀ u, pw u = true → u < n) {xs : List Int} (hx : InOf pw P u xs) :
    FindQ n pw (stepE P N A) tt (putsS pw false (k + 1) (far, l) xs).1 (putsS pw false (k + 1) (far, l) xs).2 k ∧ (putsS pw false (k + 1) (far, l) xs).2.length + kntF n far = l.length + kntF n (putsS pw false (k + 1) (far, l) xs).1 := by
  obtain ⟨h1, h2⟩ := h.puts hpw (d := false) xs (fun v hv => by obtain ⟨w, e, hr⟩ := hx.1 v hv; exact ⟨w, e, hr⟩)
  refine ⟨h1.end_ (fun v b he hv hp => ?_), h2⟩
  cases b with
  | false => exact .inr ⟨hx.2 v he hp, rfl⟩
  | true => cases he
theorem look_yes_q (h : FindL n pw (stepE P N A) tt (far, l) u true k (fun _ _ => False)) (hpw : ∀ u, pw u = true → u < n) {xs ys : List Int} (hx : InOf pw A u xs) (hy : InOf pw N u ys) :
    FindQ n pw (stepE P N A) tt (putsS pw false (k + 1) (putsS pw true (k + 1) (far, l) xs) ys).1 (putsS pw false (k + 1) (putsS pw true (k + 1) (far, l) xs) ys).2 k ∧
      (putsS pw false (k + 1) (putsS pw true (k + 1) (far, l) xs) ys).2.length + kntF n far = l.length + kntF n (putsS pw false (k + 1) (putsS pw true (k + 1) (far, l) xs) ys).1 := by
  obtain ⟨h1, h2⟩ := h.puts hpw (d := true) xs (fun v hv => by obtain ⟨w, e, hr⟩ := hx.1 v hv; exact ⟨w, e, hr⟩)
  obtain ⟨h3, h4⟩ := h1.puts hpw (d := false) ys (fun v hv => by obtain ⟨w, e, hr⟩ := hy.1 v hv; exact ⟨w, e, hr⟩)
  refine ⟨h3.end_ (fun v b he hv hp => ?_), by simp only at h2; omega⟩
  cases b with
  | false => exact .inr ⟨hy.2 v he hp, rfl⟩
  | true => exact .inl (.inr ⟨hx.2 v he hp, rfl⟩)
end
/-- At the beginning: the spot behind the arc, if it is within. -/
theorem find_start {n : Nat} {pw : Nat → Bool} {E : Nat → Bool → Nat → Bool → Bool} (hpw : ∀ u, pw u = true → u < n) (t : Int) :
    FindQ n pw E (fun u => decide ((u : Int) = t)) (if freshF pw (fun _ _ => none) t true then putF (fun _ _ => none) t.toNat true 0 else fun _ _ => none) (if freshF pw (fun _ _ => none) t true then [] ++ [(t.toNat, true)] else []) 0 := by
  have hfr : freshF pw (fun _ _ => none) t true = inW pw t := by simp [freshF]
  rw [hfr]
  cases hi : inW pw t with
  | false =>
    simp only [Bool.false_eq_true, if_false]
    refine ⟨⟨fun v b => ⟨fun e => (by cases e), ?_⟩, fun v b k e => (by cases e), fun v b k e => by (cases e), fun s hs => (by cases hs), fun v b k e => (by cases e), List.Pairwise.nil, fun w c k v b e => (by cases e)⟩, List.nodup_nil, fun v b k e => (by cases e)⟩
    rintro ⟨_, e, _, hp⟩
    simp only [decide_eq_true_eq] at e
    subst e
    simp [inW, hp] at hi
  | true =>
    simp only [if_true]
    simp only [inW, Bool.and_eq_true, decide_eq_true_eq] at hi
    obtain ⟨h0, hp⟩ := hi
    have hn := hpw _ hp
    have hk := kntF_put (n := n) (m := 0) (b := true) (far := fun _ _ => none) hn rfl
    have hv : ∀ {v : Nat} {b : Bool} {k : Nat}, putF (fun _ _ => none) t.toNat true 0 v b = some k → v = t.toNat ∧ b = true ∧ k = 0 := by
      intro v b k e
      simp only [putF] at e
      split at e
      · rename_i h; cases e; exact ⟨h.1, h.2, rfl⟩
      · cases e
    refine ⟨⟨fun v b => ⟨fun e => ?_, ?_⟩, fun v b k e => ?_, fun v b k e => ?_, fun s hs => ?_, fun v b k e => ?_, List.pairwise_singleton _ _, fun w c k v b e hn => ?_⟩, by simp, fun v b k e => ?_⟩
    · obtain ⟨rfl, rfl, _⟩ := hv e
      refine ⟨rfl, by simp; omega, hn, hp⟩
    · rintro ⟨rfl, e, _, _⟩
      simp only [decide_eq_true_eq] at e
      have : v = t.toNat := by omega
      simp [putF, this]
    · obtain ⟨rfl, _, _⟩ := hv e; exact ⟨hn, hp⟩
    · obtain ⟨_, _, e⟩ := hv e; omega
    · simp only [List.nil_append, List.mem_singleton] at hs
      subst hs
      exact ⟨0, by simp [putF], Nat.le_refl _⟩
    · obtain ⟨_, _, e⟩ := hv e; omega
    · obtain ⟨rfl, rfl, _⟩ := hv e
      exact absurd (by simp) hn
    · obtain ⟨_, _, rfl⟩ := hv e
      rw [hk]; omega
end Go.Proofs.YtdcjfpjpboafnaaDoor
namespace Go.Proofs.YtdcjfpjpboafnaaDoor
set_option linter.all false
open Go.RowKit Go.Shelf
attribute [local go_sem] Oper.semAt_some
set_option maxRecDepth 100000

/-- A loop with a measure of one's own. -/
theorem wp_loop_own {P : Program} {c : Code} {Q : Exit → Act → World → Prop} {a : Act} {w : World} (R : Nat → Act → World → Prop) {k : Nat} (h0 : R k a w)
    (round : ∀ k a w, R k a w → c.wp P (Exit.then (fun a' w' => ∃ k', k' < k ∧ R k' a' w') Q) a w) : (Code.loop c).wp P Q a w := by
  classical
  have hmin : ∀ k a w, R k a w → ∃ k0, R k0 a w ∧ ∀ j, R j a w → k0 ≤ j := by
    intro k a w
    induction k using Nat.strongRecOn with
    | _ k ih =>
      intro h
      by_cases h2 : ∃ j, j < k ∧ R j a w
      · obtain ⟨j, hj, hr⟩ := h2; exact ih j hj hr
      · exact ⟨k, h, fun j hj => Nat.le_of_not_lt (fun hlt => h2 ⟨j, hlt, hj⟩)⟩
  refine wp_loop (fun a w => ∃ k, R k a w) (fun a w => if h : ∃ k, R k a w then Classical.choose (hmin _ a w (Classical.choose_spec h)) else 0) ⟨k, h0⟩ ?_
  intro a w hR
  have hs := Classical.choose_spec (hmin _ a w (Classical.choose_spec hR))
  refine Code.wp_mono ?_ (round _ a w hs.1)
  rintro e a' w' hq
  cases e with
  | normal =>
    obtain ⟨k', hk, hr⟩ := hq
    have hR' : ∃ k, R k a' w' := ⟨k', hr⟩
    refine ⟨hR', ?_⟩
    have hs' := Classical.choose_spec (hmin _ a' w' (Classical.choose_spec hR'))
    simp only [hR, hR', dif_pos]
    exact Nat.lt_of_le_of_lt (hs'.2 _ hr) hk
  | exit id => exact hq
  | goto l => exact hq
  | ret => exact hq
  | panic chain => exact hq
  | outgrown => exact hq
/-- Between two rounds. -/
def FindI (W : World) (r : Option Addr) (wg0 n : Nat) (pw : Nat → Bool) (E : Nat → Bool → Nat → Bool → Bool) (a b c t : Int) (q wg wa mb : Nat) (k : Nat) (ac : Act) (w : World) : Prop :=
  ∃ (y : Int × Bool) (bo : Bool) (bx : Nat) (far : Nat → Bool → Option Nat) (l : List (Nat × Bool)) (u12 u13 u14 u15 u16 u17 u18 u19 u20 u21 u22 u23 u24 u25 u26 u27 u28 u29 u30 u31 u32 u33 u34 u35 u36 u37 u38 u39 u40 u41 u42 u43 u44 u45 u46 u47 u48 u49 : Value), ac = { tmps := #[.pointer r, .pointer (some ⟨wg0, 0, none⟩), .agg #[.int .i64 a, .int .i64 b, .int .i64 c], .int .i64 t, undef, undef, .pointer (some ⟨W.heap.size, 0, none⟩), undef, .pointer none, .pointer (some ⟨q, 0, none⟩), .pointer (some ⟨bx, 0, none⟩), .bool bo, u12, u13, u14, u15, u16, u17, u18, u19, u20, u21, u22, u23, u24, u25, u26, u27, u28, u29, u30, u31, u32, u33, u34, u35, u36, u37, u38, u39, u40, u41, u42, u43, u44, u45, u46, u47, u48, u49], defers := [] } ∧
    FinI w W.heap.size q r wg wa n pw a b c mb far l ∧ Fr0 W w ∧ w.heap[bx]? = some (.cells #[.int .i64 y.1, .bool y.2] 63 (0, 0)) ∧ ¬ FinO q mb w bx ∧ W.heap.size ≤ bx ∧
    Hid (if bo = true then ∃ x L, y = sptN x ∧ FindQ n pw E (fun u => decide ((u : Int) = t)) far (x :: l) L else l = [] ∧ ∃ L, FindQ n pw E (fun u => decide ((u : Int) = t)) far [] L) ∧
    k = (2 * n - kntF n far) + l.length + (if bo = true then 1 else 0)
/-- A spot is taken, as the search does. -/
def FStealPost (W : World) (B q : Nat) (r : Option Addr) (wg wa n : Nat) (pw : Nat → Bool) (a b c : Int) (mb : Nat) (far : Nat → Bool → Option Nat) (l : List (Nat × Bool)) (v : Value) (w' : World) : Prop :=
  Fr (FinO q mb W) W w' ∧ (∀ k, FinO q mb w' k → FinO q mb W k) ∧ ∃ y bo lr, v = .tuple #[.agg #[.int .i64 y.1, .bool y.2], .bool bo] ∧ FinI w' B q r wg wa n pw a b c mb far lr ∧ ((bo = false ∧ l = [] ∧ lr = []) ∨ (bo = true ∧ ∃ x, y = sptN x ∧ l = x :: lr))
theorem FSteal_is {W : World} {B q wg wa n mb : Nat} {r : Option Addr} {pw : Nat → Bool} {a b c : Int} {far : Nat → Bool → Option Nat} {l : List (Nat × Bool)} (h : FinI W B q r wg wa n pw a b c mb far l) :
    Calls Tryd.prog 36 #[.pointer (some ⟨q, 6, none⟩)] W (Rets (FStealPost W B q r wg wa n pw a b c mb far l)) := by
  obtain ⟨A, N, top, vs, hD, hN⟩ := h.deq
  have hbase := h.base
  have hqm : ¬ q = mb := h.map.ne_cells hD.blk
  have hrm : ∀ rb, A = some ⟨rb, 0, none⟩ → ¬ rb = mb := fun rb e => by
    obtain ⟨cs, t, fz, hc⟩ := hD.cells (.inr e)
    exact h.map.ne_cells hc
  have htab : ¬ DqSO q A 0 := by
    rintro (e | e)
    · omega
    · have := (hD.ring_lt e).1; omega
  have h6 := hD.blk.c0
  rw [show (finPre r wg a b c mb).length = 6 from rfl] at h6
  have hn1 : ∀ j, DqSO q A j → FinO q mb W j := fun j hs => by
    rcases hs with e | e
    · exact .inl e
    · exact .inr (.inr ⟨N, by rw [← e]; exact h6⟩)
  have key : ∀ (l' : List (Int × Bool)) (v : Value) (w' : World), Fr (fun k => k = q ∨ A = some ⟨k, 0, none⟩) W w' → (∃ top vs, IsDqS w' B q 84 (finPre r wg a b c mb) [] A N top vs l') → ∀ lr, lr.map sptN = l' → lr.length ≤ l.length → FinI w' B q r wg wa n pw a b c mb far lr ∧ (∀ k, FinO q mb w' k → FinO q mb W k) := by
    rintro l' v w' hf ⟨top', vs', hD'⟩ lr rfl hlr
    refine ⟨⟨⟨A, N, top', vs', hD', hN⟩, h.wbits.frT hf htab (fun k cs t fz hs hk => by rcases hD.types hs hk with rfl | rfl <;> decide), h.map.fr hf (fun e => e.elim (fun e => hqm e.symm) (fun e => hrm _ e rfl)), ⟨hbase.1, hbase.2.1, Nat.le_trans hbase.2.2.1 hf.size, hbase.2.2.2⟩, Nat.le_trans hlr h.len⟩, ?_⟩
    rintro k (e | e | ⟨N', e⟩)
    · exact .inl e
    · exact .inr (.inl e)
    · have h1 := hD'.blk.c0
      rw [show (finPre r wg a b c mb).length = 6 from rfl, e] at h1
      have e2 := Option.some.inj h1
      injection e2 with e2 _ _
      exact .inr (.inr ⟨N, by rw [e2]; exact h6⟩)
  cases l with
  | nil =>
    refine (DStealS_no hD).mono ?_
    rintro e w' ⟨v, rfl, hf, h2⟩
    rcases h2 with ⟨_, rfl, h3⟩ | ⟨x, r, e, _⟩
    · obtain ⟨k1, k2⟩ := key _ (.tuple #[]) _ hf h3 [] rfl (Nat.le_refl _)
      exact ⟨_, rfl, hf.mono (fun j _ hs => hn1 j hs), k2, (0, false), false, [], rfl, k1, .inl ⟨rfl, rfl, rfl⟩⟩
    · cases e
  | cons x l =>
    refine (DStealS_yes hD (by omega)).mono ?_
    rintro e w' ⟨v, rfl, hf, h2⟩
    rcases h2 with ⟨e, _⟩ | ⟨y, r, e, rfl, h3⟩
    · cases e
    · rw [List.cons.injEq] at e
      obtain ⟨rfl, rfl⟩ := e
      obtain ⟨k1, k2⟩ := key _ (.tuple #[]) _ hf h3 l rfl (by simp)
      exact ⟨_, rfl, hf.mono (fun j _ hs => hn1 j hs), k2, sptN x, true, l, rfl, k1, .inr ⟨rfl, x, rfl, rfl⟩⟩
/-- A cell turned that is none of the search's. -/
theorem FinI.away {W W' : World} {B q wg wa n mb : Nat} {r : Option Addr} {pw : Nat → Bool} {a b c : Int} {far : Nat → Bool → Option Nat} {l : List (Nat × Bool)} {S : Nat → Prop} (h : FinI W B q r wg wa n pw a b c mb far l) (f : Fr S W W') (hS : ∀ j, S j → ¬ FinO q mb W j)
    (hb : ∀ j, S j → j ≠ 0 ∧ j ≠ wg ∧ j ≠ wa) : FinI W' B q r wg wa n pw a b c mb far l ∧ ∀ k, FinO q mb W' k → FinO q mb W k := by
  obtain ⟨A, N, top, vs, hD, hN⟩ := h.deq
  have h6 := hD.blk.c0
  rw [show (finPre r wg a b c mb).length = 6 from rfl] at h6
  have hq : ¬ S q := fun hs => hS q hs (.inl rfl)
  have hD' := hD.fr f hq (fun rb e hs => hS rb hs (.inr (.inr ⟨N, by rw [← e]; exact h6⟩)))
  refine ⟨⟨⟨A, N, top, vs, hD', hN⟩, h.wbits.fr f (fun hs => (hb _ hs).1 rfl) (fun hs => (hb _ hs).2.1 rfl) (fun hs => (hb _ hs).2.2 rfl), h.map.fr f (fun hs => hS _ hs (.inr (.inl rfl))), ⟨h.base.1, h.base.2.1, Nat.le_trans h.base.2.2.1 f.size, h.base.2.2.2⟩, h.len⟩, ?_⟩
  rintro k (e | e | ⟨N', e⟩)
  · exact .inl e
  · exact .inr (.inl e)
  · have h1 := hD'.blk.c0
    rw [show (finPre r wg a b c mb).length = 6 from rfl, e] at h1
    exact .inr (.inr ⟨N, by rw [← Option.some.inj h1] at h6; injection (Option.some.inj h1) with e2 _ _; rw [e2]; exact (by have := hD.blk.c0; rw [show (finPre r wg a b c mb).length = 6 from rfl] at this; exact this)⟩)
/-- A finder that knows nothing yet. -/
def FinZ (W : World) (r : Option Addr) (n : Nat) (a b c : Int) (q wg wa mb : Nat) (wx : World) : Prop :=
  FinI wx W.heap.size q r wg wa n (fun _ => false) a b c mb (fun _ _ => none) [] ∧ Fr0 W wx ∧ W.heap.size ≤ wg ∧ W.heap.size ≤ wa
def FindPost (W : World) (r : Option Addr) (n : Nat) (pw : Nat → Bool) (E : Nat → Bool → Nat → Bool → Bool) (a b c : Int) (t : Int) (v : Value) (w' : World) : Prop :=
  ∃ q wg wa mb far, v = .pointer (some ⟨q, 0, none⟩) ∧ FinI w' W.heap.size q r wg wa n pw a b c mb far [] ∧ Fr0 W w' ∧ FarOk n pw E (fun u => decide ((u : Int) = t)) far ∧ ∀ u d k, far u d = some k → k < 2 * n
theorem kntF_none (n : Nat) : kntF n (fun _ _ => none) = 0 := by simp [kntF, elems]
theorem finZ {W wx : World} {r : Option Addr} {n : Nat} {a b c : Int} {q wg wa mb : Nat} (hq : wx.heap[q]? = some (.cells #[.pointer r, .pointer (some ⟨wg, 0, none⟩), .int .i64 a, .int .i64 b, .int .i64 c, .map (some mb), .slice none 0 0, .int .i64 0, .int .i64 0] 84 (0, 0)))
    (hB : IsBits wx wg wa n (fun _ => false)) (hm : MapIs Tryd.prog 63 sptL sptO wx mb 0 (fun _ => none)) (hF : Fr0 W wx) (h1 : W.heap.size ≤ wg) (h2 : W.heap.size ≤ wa) (h3 : W.heap.size ≤ q) (h4 : W.heap.size ≤ mb) (ht : Tab W) : FinZ W r n a b c q wg wa mb wx :=
  ⟨⟨⟨none, 0, 0, [], ⟨hq, .inl ⟨rfl, rfl, rfl, rfl, rfl⟩⟩, by omega⟩, hB, by
      rw [kntF_none]
      exact hm.congr (fun x _ => by unfold farM; split <;> rfl), ⟨h3, h4, hF.size, ht.lt⟩, Nat.zero_le _⟩, hF, h1, h2⟩
theorem newF (w1 : World) (cs : Array Value) (t : Nat) : (w1.alloc (.cells cs t)).heap[w1.heap.size]? = some (.cells cs t (0, 0)) := World.alloc_heap_new _ _
set_option maxHeartbeats 8000000 in
theorem Find_is {W : World} {r p : Option Addr} {g n : Nat} {J0 J : List ArcI} {wg0 wa0 nb : Nat} {pw : Nat → Bool} {a b c : Int} {P N A : Nat → Nat → Bool} (hR : IsR W r p (some ⟨g, 0, none⟩)) (hP : GP W p n J0) (hG : GP W (some ⟨g, 0, none⟩) n J) (hT : Tab W) (hw : IsBits W wg0 wa0 nb pw)
    (hn : n ≤ 1000) {t : Int} (ht : (Lit.int .i64 t).wf = true) (ha : ∀ u, u < n → InOf (fun k => decide (k < n) && pw k) P u (nextL J u a (fun k => decide (k < n) && pw k))) (hb : ∀ u, u < n → InOf (fun k => decide (k < n) && pw k) N u (nextL J u b (fun k => decide (k < n) && pw k))) (hc : ∀ u, u < n → InOf (fun k => decide (k < n) && pw k) A u (nextL J u c (fun k => decide (k < n) && pw k))) :
    Calls Tryd.prog 24 #[.pointer r, .pointer (some ⟨wg0, 0, none⟩), .agg #[.int .i64 a, .int .i64 b, .int .i64 c], .int .i64 t] W (Rets (FindPost W r n (fun k => decide (k < n) && pw k) (stepE P N A) a b c t)) := by
  obtain ⟨w0, hw0⟩ : ∃ w0, W.alloc (.cells #[.int .i64 a, .int .i64 b, .int .i64 c] 23) = w0 := ⟨_, rfl⟩
  have hf0 : Fr0 W w0 := hw0 ▸ fr_alloc _ _ _
  have hs0 : w0.heap.size = W.heap.size + 1 := by rw [← hw0]; simp
  have hb0 : w0.heap[W.heap.size]? = some (.cells #[.int .i64 a, .int .i64 b, .int .i64 c] 23 (0, 0)) := hw0 ▸ World.alloc_heap_new _ _
  have hmm := @run_makeMap Tryd.prog
  have HL := Lib.hid (fun w' (f : Fr0 w0 w') => LenR_is (hR.fr0 (hf0.trans0 f)) (hP.fr0 (hf0.trans0 f)))
  have HN := Lib.hid (fun w' (f : Fr0 w0 w') => New_is (n : Int) w' (hT.fr (hf0.trans0 f) (fun x => x)))
  have HB0 := Lib.hid hb0
  have HTt := Lib.hid hT
  have HG := Lib.hid hG
  have HR := Lib.hid hR
  have HW := Lib.hid hw
  have HA := Lib.hid ha
  have HB := Lib.hid hb
  have HC := Lib.hid hc
  clear hG hR hw ha hb hc hb0 hT hP
  go_enter Tryd.func24, Tryd.ntmps24
  go_upto_region 1 with (fail)
  clear hw0
  go_cut [9] from 12 to 20 (fun s9 wx => ∃ q wg wa mb, s9 = .pointer (some ⟨q, 0, none⟩) ∧ FinZ W r n a b c q wg wa mb wx)
  case first =>
    have hrg : w0.cell? ⟨W.heap.size, 0, none⟩ = some (.int .i64 a) ∧ w0.cell? ⟨W.heap.size, 1, none⟩ = some (.int .i64 b) ∧ w0.cell? ⟨W.heap.size, 2, none⟩ = some (.int .i64 c) := by unfold World.cell?; rw [HB0.out]; exact ⟨rfl, rfl, rfl⟩
    have HKS := Lib.hid (show ∀ w', Fr0 w0 w' → (Fr0 w0 w' ∧ w'.cell? ⟨W.heap.size, 0, none⟩ = some (.int .i64 a) ∧ w'.cell? ⟨W.heap.size, 1, none⟩ = some (.int .i64 b) ∧ w'.cell? ⟨W.heap.size, 2, none⟩ = some (.int .i64 c)) from fun w' f => ⟨f, f.cell hrg.1 (fun x => x), f.cell hrg.2.1 (fun x => x), f.cell hrg.2.2 (fun x => x)⟩)
    clear hrg
    go_region_held_law (fun w' => Fr0 w0 w' ∧ w'.cell? ⟨W.heap.size, 0, none⟩ = some (.int .i64 a) ∧ w'.cell? ⟨W.heap.size, 1, none⟩ = some (.int .i64 b) ∧ w'.cell? ⟨W.heap.size, 2, none⟩ = some (.int .i64 c))
      ((refine HKS.out _ ?_; first | exact fr_drew _ _ | assumption | exact And.left (by assumption) | exact Fr.alloc (And.left (by assumption)) _ | exact Fr.alloc (by assumption) _))
      (first
        | (go_at_call 25; refine (HL.out _ (And.left (by assumption))).mono ?_; rintro e w' ⟨rfl, rfl⟩)
        | (go_at_call 29; refine (HN.out _ (And.left (by assumption))).mono ?_; rintro e w1 ⟨_, rfl, wg, wa, rfl, k1, k2, k3, k4⟩; have hF := Fr.trans0 (And.left (by assumption)) k3))
    all_goals
      go_wp2_with fail
      go_meet
      rw [show (max 0 (min (n : Int) 65536)).toNat = n by omega] at k4
      simp only [show ∀ w : World, w.drew.heap = w.heap from fun _ => rfl] at k1 k2
      have hz1 := k3.size
      simp only [show ∀ w : World, w.drew.heap = w.heap from fun _ => rfl] at hz1
    · refine ⟨_, wg, wa, _, rfl, finZ (by rw [← World.size_alloc w1 (.map #[] 0)]; exact newF _ _ _) (k4.fr0 ((fr_alloc _ _ _).alloc _)) ((MapIs.made w1 _ _ _ _).fr0 (fr_alloc _ _ _)) ((hf0.trans0 hF).trans0 ((fr_alloc _ _ _).alloc _)) (by omega) (by omega) (by omega) (by omega) HTt.out⟩
    all_goals
      rw [World.size_alloc] at hz1 k1 k2
      refine ⟨_, wg, wa, _, rfl, finZ (newF _ _ _) (k4.fr0 (fr_alloc _ _ _)) (hs0 ▸ ((((MapIs.made w0 _ _ _ _).fr0 (fr_drew _ _)).fr0 k3).fr0 (fr_alloc _ _ _))) ((hf0.trans0 hF).trans0 (fr_alloc _ _ _)) (by omega) (by omega) (by omega) (by omega) HTt.out⟩
  case rest =>
    obtain ⟨q, wg, wa, mb, rfl, hZ⟩ := hcut
    obtain ⟨w1, hw1⟩ : ∃ w1, w1 = wc := ⟨_, rfl⟩
    subst hw1
    clear hmm HL HN HB0 hf0 hs0
    clear w0
    obtain ⟨hFI, hF1, hwg, hwa⟩ := hZ
    obtain ⟨ring, top, mm, hbk⟩ := hFI.blk
    have c1 := hbk.c1
    have hwlt : wa0 < W.heap.size := by
      obtain ⟨ws, _, _, h3, _⟩ := HW.out.words
      exact heap_lt h3
    have HOR := Lib.hid (Or_is hFI.wbits (HW.out.fr0 hF1) (.inl (by omega)))
    simp only [Bool.false_or] at HOR
    have HFI := Lib.hid hFI
    have HPW := Lib.hid (show ∀ u, (fun k => decide (k < n) && pw k) u = true → u < n from fun u hu => by simp at hu; exact hu.1)
    clear hFI hbk
    go_wp2_with (go_at_call 34; refine (HOR.out).mono ?_; rintro e w2 ⟨_, rfl, rfl, hf2, hb2⟩)
    have hF2 : Fr0 W w2 := Fr.trans hF1 hf2 (fun j hj e => by omega)
    have hwt : ∀ {k t : Nat} {cs : Array Value} {fz : Nat × Nat}, w1.heap[k]? = some (.cells cs t fz) → t ≠ 99 → ¬ k = wa := fun hk ht e => ht (HFI.out.wbits.wtype (e ▸ hk))
    have hFI2 : FinI w2 W.heap.size q r wg wa n (fun k => decide (k < n) && pw k) a b c mb (fun _ _ => none) [] := by
      obtain ⟨A', N', top', vs', hD, hN'⟩ := HFI.out.deq
      have hbase := HFI.out.base
      refine ⟨⟨A', N', top', vs', hD.fr hf2 (hwt hD.blk (by decide)) (fun rb e => ?_), hN'⟩, hb2, HFI.out.map.fr hf2 (fun e => ?_), ⟨hbase.1, hbase.2.1, Nat.le_trans hbase.2.2.1 hf2.size, hbase.2.2.2⟩, Nat.zero_le _⟩
      · obtain ⟨cs, t, fz, hc⟩ := hD.cells (.inr e)
        rcases hD.types (.inr e) hc with rfl | rfl
        · exact hwt hc (by decide)
        · exact hwt hc (by decide)
      · obtain ⟨ws, _, _, h3, _⟩ := HFI.out.wbits.words
        exact HFI.out.map.ne_cells h3 e.symm
    have HP := Lib.hid (FPut_is hFI2 HPW.out hn ht true 0)
    rw [show (((0 : Nat)) : Int) = (0 : Int) from rfl] at HP
    have HFI2 := Lib.hid hFI2
    have HST := Lib.hid (find_start (E := stepE P N A) HPW.out t)
    clear hFI2 hb2 c1
    go_wp2_with (go_at_call 35; refine (HP.out).mono ?_; rintro e w3 ⟨_, rfl, rfl, hFI3, hf3, hm3⟩)
    have hF3 : Fr0 W w3 := Fr.trans hF2 hf3 (fun j hj => HFI2.out.low hj)
    have HS1 := Lib.hid (FSteal_is hFI3)
    have HFI3 := Lib.hid hFI3
    obtain ⟨far, hfar⟩ : ∃ far, far = (if freshF (fun k => decide (k < n) && pw k) (fun _ _ => none) t true then putF (fun _ _ => none) t.toNat true 0 else fun _ _ => none) := ⟨_, rfl⟩
    obtain ⟨l, hl⟩ : ∃ l, l = (if freshF (fun k => decide (k < n) && pw k) (fun _ _ => none) t true then [] ++ [(t.toNat, true)] else []) := ⟨_, rfl⟩
    rw [← hfar, ← hl] at HS1 HST HFI3
    clear hFI3 hfar hl HP HFI2
    go_wp2_with (go_at_call 36; refine (HS1.out).mono ?_; rintro e w4 ⟨_, rfl, hf4, hm4, y, bo, lr, rfl, hFI4, hc4⟩)
    have hF4 : Fr0 W w4 := Fr.trans hF3 hf4 (fun j hj => HFI3.out.low hj)
    obtain ⟨w5, hw5⟩ : ∃ w5, w5 = w4.alloc (.cells #[.int .i64 y.1, .bool y.2] 63) := ⟨_, rfl⟩
    rw [← hw5]
    have hf5 : Fr0 w4 w5 := by rw [hw5]; exact fr_alloc _ _ _
    have hb5 : w5.heap[w4.heap.size]? = some (.cells #[.int .i64 y.1, .bool y.2] 63 (0, 0)) := by rw [hw5]; exact newF _ _ _
    have hno5 : ¬ FinO q mb w5 w4.heap.size := fun hj => Nat.lt_irrefl _ (hFI4.O_lt (hFI4.O_grow (Fr0.grow hf5 0) hj))
    have hsz := hF4.size
    have hq5 : Hid (if bo = true then ∃ x L, y = sptN x ∧ FindQ n (fun k => decide (k < n) && pw k) (stepE P N A) (fun u => decide ((u : Int) = t)) far (x :: lr) L else lr = [] ∧ ∃ L, FindQ n (fun k => decide (k < n) && pw k) (stepE P N A) (fun u => decide ((u : Int) = t)) far [] L) := by
      refine Lib.hid ?_
      rcases hc4 with ⟨rfl, e1, e2⟩ | ⟨rfl, x, e1, e2⟩
      · rw [e1] at HST
        simp only [Bool.false_eq_true, if_false]
        exact ⟨e2, 0, HST.out⟩
      · rw [e2] at HST
        simp only [if_true]
        exact ⟨x, 0, e1, HST.out⟩
    generalize w4.heap.size = bx at *
    have hFI5 := hFI4.fr0 hf5
    have hF5 := hF4.trans0 hf5
    clear hc4 hw5 hf5 hFI4 hF4 hf4 hm4 HS1 HFI3 HST hm3 hf3 hF3 hf2 hF2 hF1 hwt HFI HOR
    clear w1 w2 w3 w4
    refine wp_loop_own (FindI W r wg0 n (fun k => decide (k < n) && pw k) (stepE P N A) a b c t q wg wa mb) ⟨y, bo, bx, far, lr, _, _, _, _, _, _, _, _, _, _, _, _, _, _, _, _, _, _, _, _, _, _, _, _, _, _, _, _, _, _, _, _, _, _, _, _, _, _, rfl, hFI5, hF5, hb5, hno5, hsz, hq5, rfl⟩ ?_
    clear hq5 hb5 hno5 hsz hFI5 hF5
    clear y bo bx far lr l w5 hwlt
    rintro k ac wr ⟨y, bo, bx, far, l, u12, u13, u14, u15, u16, u17, u18, u19, u20, u21, u22, u23, u24, u25, u26, u27, u28, u29, u30, u31, u32, u33, u34, u35, u36, u37, u38, u39, u40, u41, u42, u43, u44, u45, u46, u47, u48, u49, rfl, hFI, hF, hb, hno, hbs, hQ, hk⟩
    cases bo with
    | false =>
      obtain ⟨rfl, L, hq⟩ := (show l = [] ∧ ∃ L, FindQ n (fun k => decide (k < n) && pw k) (stepE P N A) (fun u => decide ((u : Int) = t)) far [] L from by simpa using hQ.out)
      have HFI := Lib.hid hFI
      clear hFI
      go_wp2_with fail
      go_ret
      exact ⟨_, rfl, q, wg, wa, mb, far, rfl, HFI.out, hF, hq.dist.done, fun u d k e => by have := hq.bnd u d k e; have := kntF_le n far; omega⟩
    | true =>
      obtain ⟨⟨u, d⟩, L, rfl, hq⟩ := (show ∃ x L, y = sptN x ∧ FindQ n (fun k => decide (k < n) && pw k) (stepE P N A) (fun u => decide ((u : Int) = t)) far (x :: l) L from by simpa using hQ.out)
      obtain ⟨i, hi1, hi2, hL⟩ := hq.take
      have hun : u < n := (hL.dist.dom _ _ _ hi1).1
      have hkn := kntF_le n far
      have x0 : wr.cell? ⟨bx, 0, none⟩ = some (.int .i64 (u : Int)) := by unfold World.cell?; rw [hb]; rfl
      have x1 : wr.cell? ⟨bx, 1, none⟩ = some (.bool d) := by unfold World.cell?; rw [hb]; rfl
      have HL : ∃ far' l', Hid (Calls Tryd.prog 37 #[.pointer (some ⟨q, 0, none⟩), .agg #[.int .i64 (u : Int), .bool d]] wr (Rets (FLookPost wr W.heap.size q r wg wa n (fun k => decide (k < n) && pw k) a b c mb (far', l')))) ∧
          Hid (FindQ n (fun k => decide (k < n) && pw k) (stepE P N A) (fun u => decide ((u : Int) = t)) far' l' i ∧ l'.length + kntF n far = l.length + kntF n far') := by
        cases d with
        | false => exact ⟨_, _, Lib.hid (Look_no hFI hF HR.out HG.out HPW.out hn hun hi1 (by omega)), Lib.hid (look_no_q hL HPW.out (HA.out u hun))⟩
        | true => exact ⟨_, _, Lib.hid (Look_yes hFI hF HR.out HG.out HPW.out hn hun hi1 (by omega)), Lib.hid (look_yes_q hL HPW.out (HC.out u hun) (HB.out u hun))⟩
      obtain ⟨far', l', HL1, HL2⟩ := HL
      have HFI := Lib.hid hFI
      have HBX := Lib.hid hb
      have HK := Lib.hid hk
      clear hFI hq hL hi1 hi2 hQ hb hk
      go_wp2_with (go_at_call 37; refine (HL1.out).mono ?_; rintro e w2 ⟨_, rfl, rfl, hFI2, hf2, hm2⟩; have hb2 := hf2.heap HBX.out hno; have y0 : w2.cell? ⟨bx, 0, none⟩ = some (.int .i64 (u : Int)) := (by unfold World.cell?; rw [hb2]; rfl); have y1 : w2.cell? ⟨bx, 1, none⟩ = some (.bool d) := (by unfold World.cell?; rw [hb2]; rfl))
      obtain ⟨w3, hw3⟩ : ∃ w3, w3 = w2.alloc (.cells #[.int .i64 (u : Int), .bool d] 63) := ⟨_, rfl⟩
      rw [← hw3]
      have hf3 : Fr0 w2 w3 := by rw [hw3]; exact fr_alloc _ _ _
      have hb3 : w3.heap[w2.heap.size]? = some (.cells #[.int .i64 (u : Int), .bool d] 63 (0, 0)) := by rw [hw3]; exact newF _ _ _
      have hno3 : ¬ FinO q mb w3 w2.heap.size := fun hj => Nat.lt_irrefl _ (hFI2.O_lt (hFI2.O_grow (Fr0.grow hf3 0) hj))
      have hF2 : Fr0 W w2 := Fr.trans hF hf2 (fun j hj => HFI.out.low hj)
      have hsz2 := hF2.size
      have hF3 := hF2.trans0 hf3
      have hFI3 := hFI2.fr0 hf3
      have HS3 := Lib.hid (FSteal_is hFI3)
      have HFI3 := Lib.hid hFI3
      clear hw3 hFI2 hFI3 hf2 hm2 hb2 y0 y1 HBX hno x0 x1 HL1
      generalize w2.heap.size = bz at *
      clear hF2 hf3
      clear w2
      refine (HS3.out).mono ?_
      rintro e w4 ⟨_, rfl, hf4, hm4, y, bo, lr, rfl, hFI4, hc4⟩
      have hb4 := hf4.heap hb3 hno3
      have hF4 : Fr0 W w4 := Fr.trans hF3 hf4 (fun j hj => HFI3.out.low hj)
      have y0 : w4.cell? ⟨bz, 0, none⟩ = some (.int .i64 (u : Int)) := by unfold World.cell?; rw [hb4]; rfl
      have y1 : w4.cell? ⟨bz, 1, none⟩ = some (.bool d) := by unfold World.cell?; rw [hb4]; rfl
      have z0 : w4.frozen? ⟨bz, 0, none⟩ = false := by unfold World.frozen?; rw [hb4]; rfl
      have z1 : w4.frozen? ⟨bz, 1, none⟩ = false := by unfold World.frozen?; rw [hb4]; rfl
      go_wp2_with fail
      obtain ⟨w5, hw5⟩ : ∃ w5, (w4.setCell ⟨bz, 0, none⟩ (.int .i64 y.1)).setCell ⟨bz, 1, none⟩ (.bool y.2) = w5 := ⟨_, rfl⟩
      rw [hw5]
      have hno4 : ¬ FinO q mb w4 bz := fun hj => hno3 (hm4 _ hj)
      have hf5 : Fr (fun k => k = bz) w4 w5 := hw5 ▸ (fr_setCell (S := fun k => k = bz) _ _ _ (fun _ => rfl)).setCell _ _ (fun _ => rfl)
      have hb5 : w5.heap[bz]? = some (.cells #[.int .i64 y.1, .bool y.2] 63 (0, 0)) := by
        have := heap_setCell_same (o := 1) (heap_setCell_same (o := 0) hb4 (.int .i64 y.1)) (.bool y.2)
        rw [hw5] at this
        exact this
      obtain ⟨hFI5, hno5⟩ := hFI4.away hf5 (fun j e => by rw [e]; exact hno4) (fun j e => by
        subst e
        have hbs := HFI3.out.base
        refine ⟨fun e => by omega, fun e => ?_, fun e => ?_⟩
        · subst e; exact absurd (hFI4.wbits.gtype hb4) (by decide)
        · subst e; exact absurd (hFI4.wbits.wtype hb4) (by decide))
      have hF5 : Fr0 W w5 := Fr.trans hF4 hf5 (fun j hj e => by omega)
      obtain ⟨hq5, hq6⟩ := HL2.out
      have hk := HK.out
      have hk1 := kntF_le n far'
      refine ⟨(2 * n - kntF n far') + lr.length + (if bo = true then 1 else 0), ?_, y, bo, bz, far', lr, _, _, _, _, _, _, _, _, _, _, _, _, _, _, _, _, _, _, _, _, _, _, _, _, _, _, _, _, _, _, _, _, _, _, _, _, _, _, rfl, hFI5, hF5, hb5, fun hj => hno4 (hno5 _ hj), hsz2, Lib.hid ?_, rfl⟩
      · simp only [if_true] at hk
        rcases hc4 with ⟨rfl, e1, e2⟩ | ⟨rfl, x, e1, e2⟩
        · rw [e2]; simp; omega
        · rw [e2, List.length_cons] at hq6; simp; omega
      · rcases hc4 with ⟨rfl, e1, e2⟩ | ⟨rfl, x, e1, e2⟩
        · rw [e1] at hq5
          simp only [Bool.false_eq_true, if_false]
          exact ⟨e2, i, hq5⟩
        · rw [e2] at hq5
          simp only [if_true]
          exact ⟨x, i, e1, hq5⟩
end Go.Proofs.YtdcjfpjpboafnaaDoor
