/- TurnG, RangeF, Next, SpreadA, BfsPure, Spread, Reach, in one text. -/
import Derived.Test.YtdcjfpjpboafnaaDoorCloNew
import Derived.Test.YtdcjfpjpboafnaaDoorAgree
import Derived.Deep.RegionHeld3
import Derived.Test.YtdcjfpjpboafnaaDoorClo
import Derived.Test.YtdcjfpjpboafnaaDoorDeq
namespace Go.Proofs.YtdcjfpjpboafnaaDoor
set_option linter.all false
open Go.RowKit Go.Shelf
attribute [local go_sem] Oper.semAt_some
set_option maxRecDepth 100000

/-- The arcs of the vertices below k, turned. -/
def backA (v : Nat) (a : ArcI) : ArcI := ⟨a.t, (v : Int), a.m⟩
def turnL (J : List ArcI) (k : Nat) : List ArcI := (List.range k).flatMap (fun v => (outL J v (-1)).map (backA v))
theorem turnL_succ (J : List ArcI) (k : Nat) : turnL J (k + 1) = turnL J k ++ (outL J k (-1)).map (backA k) := by
  simp [turnL, List.range_succ, List.flatMap_append]
theorem outL_len (J : List ArcI) (v : Nat) (m : Int) : (outL J v m).length ≤ J.length := by
  refine Nat.le_trans (List.length_filter_le _ _) ?_
  rw [rowL_len]; exact cnt1_le _ _
theorem turnL_len (J : List ArcI) : ∀ k, (turnL J k).length ≤ k * J.length
  | 0 => by simp [turnL]
  | k + 1 => by
    have h1 := turnL_len J k
    have h2 := outL_len J k (-1)
    rw [turnL_succ, List.length_append, List.length_map, Nat.add_mul]
    omega
/-- Between two rounds (printed by genturn.py). -/
def TurnI (W : World) (p : Option Addr) (n : Nat) (J : List ArcI) (a : Act) (w : World) : Prop :=
  ∃ (k : Nat) (Ds : List Nat) (u4 u5 u6 u12 u13 u14 u15 u16 u17 u18 u19 u20 u21 u22 u23 u24 u25 u26 u27 u28 : Value), a = { tmps := #[.pointer p, undef, .pointer none, .pointer (some ⟨W.heap.size, 0, none⟩), u4, u5, u6, undef, undef, .pointer p, .int .i64 (n : Int), .int .i64 (k : Int), u12, u13, u14, u15, u16, u17, u18, u19, u20, u21, u22, u23, u24, u25, u26, u27, u28, undef, undef, undef, undef, undef, undef, undef, undef], defers := marksOf Ds } ∧ k ≤ n ∧ Fr0 W w ∧ (∃ v, Box w W.heap.size 64 v ∧ w.ownsRow W.heap.size 65 3 v (turnL J k).length (arcCells (turnL J k))) ∧ Marks W.heap.size w.heap.size Ds w
def TurnGPost (W : World) (n : Nat) (J : List ArcI) (v : Value) (w' : World) : Prop :=
  ∃ g J', v = .pointer (some ⟨g, 0, none⟩) ∧ Fr0 W w' ∧ Built n (turnL J n) J' ∧ GP w' (some ⟨g, 0, none⟩) n J'
theorem turnL_ends {n : Nat} {J : List ArcI} (h : JOk n J) : (turnL J n).any (badI n) = false := by
  rw [List.any_eq_false]
  intro a ha
  obtain ⟨v, hv, ha⟩ := List.mem_flatMap.1 ha
  obtain ⟨b, hb, rfl⟩ := List.mem_map.1 ha
  have hm : b ∈ J := List.mem_of_mem_drop (List.mem_of_mem_take (List.mem_filter.1 hb).1)
  obtain ⟨h1, h2, h3, h4⟩ := h.ends b hm
  have h5 := List.mem_range.1 hv
  have e1 : ¬ b.t < 0 := by omega
  have e2 : ¬ (n : Int) ≤ b.t := by omega
  have e3 : ¬ (v : Int) < 0 := by omega
  have e4 : ¬ (n : Int) ≤ (v : Int) := by omega
  simp [badI, outI, backA, e1, e2, e3, e4]
  try omega
set_option maxHeartbeats 4000000 in
theorem TurnG_is {W : World} {p : Option Addr} {n : Nat} {J : List ArcI} (hg : GP W p n J) (hok : JOk n J) (hsm : J.length ≤ 1000000) :
    Calls Tryd.prog 43 #[.pointer p] W (Rets (TurnGPost W n J)) := by
  obtain ⟨i0, hi, hz0, hz1, hz2⟩ := info_parts info_arc
  have HL := Lib.hid (fun w' (f : Fr0 W w') => LenP_is (hg.fr0 f))
  have hn := hg.room
  have HG := Lib.hid hg
  have HE := Lib.hid (turnL_ends hok)
  clear hg hok
  refine (callsIn_wide (n := 0)).1 (callsIn_of_wp_marks Tryd.func43 rfl trivial ?_)
  simp only [Tryd.ntmps43, List.size_toArray, List.length_cons, List.length_nil, Nat.reduceAdd, Nat.reduceSub, Array.replicate_succ, Array.replicate_zero, List.push_toArray, List.append_toArray, List.nil_append, List.cons_append]
  gi_wp2_with (gi_at_call 38; refine (callsIn_wide.2 (HL.out _ (fr_alloc _ _ _))).mono ?_; rintro e w' ⟨rfl, rfl⟩)
  refine wpIn_loop (TurnI W p n J) (fun a _ => n - (intOf (a.tmps.getD 11 undef)).toNat) ?_ ?_
  · exact ⟨0, [], _, _, _, _, _, _, _, _, _, _, _, _, _, _, _, _, _, _, _, _, rfl, by omega, fr_alloc _ _ _, ⟨_, Box.new _ _ _, own_nil _ _ _ _⟩, Marks.nil _ _ _⟩
  rintro a wr ⟨k, Ds, u4, u5, u6, u12, u13, u14, u15, u16, u17, u18, u19, u20, u21, u22, u23, u24, u25, u26, u27, u28, rfl, hk, hfr, ⟨vo, hbo, hoo⟩, hM⟩
  have hw0 := hfr.size
  have hbl := hbo.lt
  have hbc := hbo.cell
  by_cases hlt : k < n
  · obtain ⟨g, ab, A, c, rfl, hgr⟩ : ∃ g ab A c, p = some ⟨g, 0, none⟩ ∧ IsG W g n J ab A c := by
      rcases HG.out with ⟨_, h, _⟩ | h
      · omega
      · exact h
    have hlt' : (k : Int) < (n : Int) := by omega
    gi_wp2_with (gi_at_call 63; refine (callsIn_wide.2 (Out_is _ _ _ _)).mono ?_; rintro e w' ⟨rfl, rfl⟩)
    obtain ⟨w2, hw2⟩ : ∃ w2, (((wr.alloc (.cells #[.int .i64 (k : Int)] 3)).alloc (.cells #[.pointer (some ⟨g, 0, none⟩)] 66)).alloc (.cells #[.int .i64 (k : Int)] 3)).alloc (.cells #[.int .i64 (-1)] 3) = w2 := ⟨_, rfl⟩
    have hbv : Box w2 wr.heap.size 3 (.int .i64 (k : Int)) := hw2 ▸ (Box.new wr _ _).fr0 (((fr_alloc _ _ _).alloc _).alloc _)
    have hb1 : Box w2 (wr.heap.size + 1) 66 (.pointer (some ⟨g, 0, none⟩)) := by
      have := Box.new (wr.alloc (.cells #[.int .i64 (k : Int)] 3)) 66 (.pointer (some ⟨g, 0, none⟩))
      rw [World.size_alloc] at this
      exact hw2 ▸ this.fr0 ((fr_alloc _ _ _).alloc _)
    have hb2 : Box w2 (wr.heap.size + 2) 3 (.int .i64 (k : Int)) := by
      have := Box.new ((wr.alloc (.cells #[.int .i64 (k : Int)] 3)).alloc (.cells #[.pointer (some ⟨g, 0, none⟩)] 66)) 3 (.int .i64 (k : Int))
      rw [World.size_alloc, World.size_alloc] at this
      exact hw2 ▸ this.fr0 (fr_alloc _ _ _)
    have hb3 : Box w2 (wr.heap.size + 3) 3 (.int .i64 (-1)) := by
      have := Box.new (((wr.alloc (.cells #[.int .i64 (k : Int)] 3)).alloc (.cells #[.pointer (some ⟨g, 0, none⟩)] 66)).alloc (.cells #[.int .i64 (k : Int)] 3)) 3 (.int .i64 (-1))
      rw [World.size_alloc, World.size_alloc, World.size_alloc] at this
      exact hw2 ▸ this
    have hf2 : Fr0 wr w2 := hw2 ▸ (((fr_alloc _ _ _).alloc _).alloc _).alloc _
    have hsz2 : w2.heap.size = wr.heap.size + 4 := by rw [← hw2]; simp
    have htl := turnL_len J k
    have hml : k * J.length ≤ 1024 * 1000000 := Nat.mul_le_mul (by omega) hsm
    have hol := outL_len J k (-1)
    rw [show bits BinOp.xor IntKind.i64 (-1) 0 = -1 by decide, hw2]
    refine range_law (gf := 77) (lb := #[.pointer (some ⟨wr.heap.size + 1, 0, none⟩), .pointer (some ⟨wr.heap.size + 2, 0, none⟩), .pointer (some ⟨wr.heap.size + 3, 0, none⟩)]) rfl (enters_of Tryd.func77 (by kernel_rfl) rfl)
      (Out1_is (wr.heap.size + 1) g n J ab A c k (-1) hlt) (fun _ => rfl)
      (fun pre W' => Fr0 W W' ∧ outK (wr.heap.size + 1) g n J ab A c k (-1) W' ∧ Box W' wr.heap.size 3 (.int .i64 (k : Int)) ∧ ∃ v, Box W' W.heap.size 64 v ∧ W'.ownsRow W.heap.size 65 3 v (turnL J k ++ pre.map (backA k)).length (arcCells (turnL J k ++ pre.map (backA k))) ∧ Marks W.heap.size wr.heap.size Ds W')
      (fun _ _ _ => False) (fun pre W hI => hI.2.1) ?stab (fun _ _ _ _ hf _ => hf) ⟨hfr.trans0 hf2, ⟨hb1, hb2, hb3, hgr.fr0 (hfr.trans0 hf2)⟩, hbv, vo, hbo.fr0 hf2, by simpa using own_fr0 hoo hf2, hM.fr hf2⟩ ?round ?done ?stop
    case stab => exact fun pre W1 W' h hG => ⟨Fr.andGrow h.1 hG (by omega), outK.grow _ _ h.2.1 hG, h.2.2.1.grow hG, by obtain ⟨v, h1, h2, h3⟩ := h.2.2.2; exact ⟨v, h1.grow hG, own_grow h2 hG, h3.grow hG (by omega)⟩⟩
    case stop => intro D c pre W hD _ hf; exact hf.elim
    case round =>
      intro l pre x Wx hl hI hpre
      have hpl : pre.length < (outL J k (-1)).length := by have := hpre.length_le; simp at this; omega
      gi_wp2
      refine ⟨ND.refl _ _, fun W2 hG => ?_⟩
      obtain ⟨q1, q2, q3, v, q4, q5, q6⟩ := hI
      replace q1 := Fr.andGrow q1 hG (by omega)
      replace q2 := outK.grow _ _ q2 hG
      replace q3 := q3.grow hG
      replace q4 := q4.grow hG
      replace q5 := own_grow q5 hG
      replace q6 := q6.grow hG (by omega)
      have q3c := q3.cell
      have q4c := q4.cell
      have kz := q1.size
      have hb := q4.lt
      have hlen : (turnL J k ++ pre.map (backA k)).length ≤ 1026000000 := by rw [List.length_append, List.length_map]; omega
      generalize hacc : turnL J k ++ pre.map (backA k) = acc at q5 hlen
      have HACC := Lib.hid hacc
      clear hacc
      gi_wp2_with (gi_at_builtin; refine wpListIn_append_own _ rfl _ _ 64 rfl W.heap.size 65 i0 (.agg #[.int .i64 0, .int .i64 0, .int .i64 0]) 3 24 Tryd.underlying64 hi hz0 hz1 hz2 rfl (by decide) _ _ _ rfl (q5.alloc _) ⟨W2.heap.size, 0, none⟩ 1 1 (arcV ⟨x.t, (k : Int), x.m⟩) rfl rfl (cell3_new W2 _ rfl ⟨x.t, (k : Int), x.m⟩ _) (arcV_one _) (by unfold maxLen; omega) (by omega) (by simp; omega) ?_; intro v' w1 hown' hgrow _; obtain ⟨g', cap', rfl⟩ := ownsRow_succ hown'; obtain ⟨c1, c2, c3, c4⟩ := collect q4 (by decide) q5 hown' hgrow; have c1c := c1.cell; have c1f := c1.frozen)
      have hno : ∀ j, j < W.heap.size → ¬ (j = W.heap.size ∨ v.ownBlock = some j) := fun j hj h => h.elim (fun e => by omega) (fun e => own_old q5 hj e)
      have hF9 := Fr.trans q1 c4 hno
      have hbx : ∀ {b t : Nat} {u : Value}, Box W2 b t u → t ≠ 65 → b ≠ W.heap.size → ¬ (b = W.heap.size ∨ v.ownBlock = some b) := fun {b t u} h ht hb h2 => h2.elim hb (fun e => own_ne q5 h ht e)
      refine ⟨c4.ND _, hF9, ⟨q2.1.fr c4 (hbx q2.1 (by decide) (by omega)), q2.2.1.fr c4 (hbx q2.2.1 (by decide) (by omega)), q2.2.2.1.fr c4 (hbx q2.2.2.1 (by decide) (by omega)), hgr.fr0 hF9⟩, q3.fr c4 (hbx q3 (by decide) (by omega)), _, c2, ?_⟩
      have ee : turnL J k ++ (pre ++ [x]).map (backA k) = acc ++ [⟨x.t, (k : Int), x.m⟩] := by rw [← HACC.out]; simp [backA]
      refine ⟨?_, q6.fr c4⟩
      rw [ee, ← arcCells_snoc, List.length_append]
      exact c3
    case done =>
      intro D Wd hD hI hk2
      obtain ⟨q1, _, _, v, q4, q5, q6⟩ := hI
      rw [← turnL_succ] at q5
      gi_wp2_with fail
      refine ⟨⟨k + 1, D :: Ds, _, _, _, _, _, _, _, _, _, _, _, _, _, _, _, _, _, _, _, _, rfl, by omega, q1, ⟨v, q4, q5⟩, ?_⟩, by simp [intOf]; omega⟩
      exact (q6.cons (D := D) (by omega) (by omega) hk2).mono (heap_lt hk2)
  · have hke : k = n := by omega
    subst hke
    obtain ⟨A5, c5, e5⟩ := own_form hoo
    subst e5
    have hlen : (turnL J k).length ≤ 1024000000 := Nat.le_trans (turnL_len J k) (Nat.mul_le_mul hn hsm)
    have hA5 := own_arcs hoo (by omega)
    have HN := Lib.hid (fun w' (f : Fr0 wr w') => NewG_is (c := c5) (hA5.fr0 f) (by omega) hn HE.out)
    have HM := Lib.hid hM
    have hFW := hfr
    generalize hlt2 : turnL J k = lt at hbo hbc HN hoo hA5 hlen HE ⊢
    have HLT := Lib.hid hlt2
    clear hlt2
    obtain ⟨hi9, hhi⟩ : ∃ x, wr.heap.size = x := ⟨_, rfl⟩
    rw [hhi] at HM
    clear hM hoo hA5 hbo
    gi_wp2_with fail
    refine wpIn_mono (Q := NoPanic _) ?_ NoPanic.imp
    gi_region_with (first
      | (gi_at_call 38; refine (callsIn_wide.2 (HL.out _ (hFW.trans0 (fr_drew _ _)))).mono ?_; rintro e w' ⟨rfl, rfl⟩)
      | (gi_at_call 27; refine (callsIn_wide.2 (HN.out _ (fr_drew _ _))).mono ?_; rintro e w3 ⟨_, rfl, g3, s3, rfl, k1, k2, k3, k4, k5⟩))
    all_goals
      refine NoPanic.normal ?_
      gi_wp2_with fail
      have hF3 : Fr0 wr w3 := (fr_drew _ _).trans0 k1
      refine leave1N rfl (HM.out.fr hF3) ?_
      intro W' hG
      obtain ⟨ab, A, c, hX⟩ := k5
      refine ⟨_, rfl, g3, joinL s3, rfl, Fr.andGrow (hFW.trans0 hF3) hG (Nat.le_refl _), ?_, .inr ⟨g3, ab, A, c, rfl, (built_isG hn k3 k4 HE.out hX).grow hG⟩⟩
      rw [HLT.out]
      exact ⟨HE.out, s3, k3, k4, rfl⟩
end Go.Proofs.YtdcjfpjpboafnaaDoor
namespace Go.Proofs.YtdcjfpjpboafnaaDoor
set_option linter.all false
open Go.RowKit
set_option maxRecDepth 100000

/-- Blocks, with what they hold. -/
abbrev Ref := Nat → Option Obj
abbrev Ref.none : Ref := fun _ => Option.none
def Holds (R : Ref) (W : World) : Prop := ∀ k o, R k = some o → W.heap[k]? = some o
/-- What is data and is not of O stays, and is not of O behind it. -/
def KeepO (O : World → Nat → Prop) (W W' : World) : Prop := ∀ k o, W.heap[k]? = some o → isData o = true → ¬ O W k → W'.heap[k]? = some o ∧ ¬ O W' k
/-- THE CONTRACT OF AN ITERATOR THAT LAYS SOMETHING OF ITS OWN: what it has laid since it began (R) stays in the rounds. -/
def IterSpecF {α : Type} (P : Program) (gf : Nat) (lb : Array Value) (encs : α → Array Value) (xs : List α) (K : World → Prop) : Prop :=
  ∀ (l : Nat) (J : Ref → List α → World → Prop) (Jx : List α → World → Prop) (W : World), l < W.heap.size →
    (∀ R pre W1, J R pre W1 → K W1) → (∀ R pre W1, J R pre W1 → Holds R W1) → (∀ R pre W1, J R pre W1 → J Ref.none pre W1) →
    (∀ R pre W1 W2, J R pre W1 → Grow W.heap.size W1 W2 → J R pre W2) → (∀ pre W1 W2, Jx pre W1 → Grow W.heap.size W1 W2 → Jx pre W2) →
    (∀ R W1, J Ref.none [] W1 → Grow W.heap.size W W1 → (∀ k o, R k = some o → W.heap.size ≤ k ∧ isData o = true ∧ W1.heap[k]? = some o) → J R [] W1) →
    J Ref.none [] W →
    (∀ R pre x W1, J R pre W1 → pre ++ [x] <+: xs → YieldAt Fence.wide 0 P l (encs x) W1 (RdPost l pre x (J R) Jx W1)) →
    CallsIn Fence.wide 0 P gf (#[.func (.yield l) #[] #[]] ++ lb) W (ItPost l xs (J Ref.none) Jx W)
/-- RANGING OVER SUCH A FUNCTION, in a function's own frame. -/
theorem range_lawF {α : Type} {P : Program} {g : Operand} {ps : Array Tmp} {assign body : Code} {Q : Exit → Act → World → Prop} {a : Act} {w : World}
    {gf : Nat} {lb : Array Value} (hg : a.eval g = .func (.func gf) #[] lb) (eg : ∀ args w, (callFunc gf args).run P w = .ok (.enter gf args) w)
    {encs : α → Array Value} {xs : List α} {K : World → Prop} (hit : IterSpecF P gf lb encs xs K) (hps : ∀ x, (encs x).size = ps.size)
    (I : List α → World → Prop) (Ix : Code → List α → World → Prop) (O : World → Nat → Prop) (hK : ∀ pre W, I pre W → K W)
    (hI : ∀ pre W1 W2, I pre W1 → Grow w.heap.size W1 W2 → I pre W2) (hIx : ∀ c pre W1 W2, Ix c pre W1 → Grow w.heap.size W1 W2 → Ix c pre W2) (h0 : I [] w)
    (hO0 : ∀ k W1, I [] W1 → Grow w.heap.size w W1 → O W1 k → k < w.heap.size) (hOg : ∀ pre W1 W2 k, I pre W1 → Grow w.heap.size W1 W2 → O W2 k → O W1 k)
    (hround : ∀ (l : Nat) (pre : List α) (x : α) (W : World), w.heap.size < l → I pre W → pre ++ [x] <+: xs →
      assign.wpIn (Fence.wide.inRound l) 0 P (Exit.then (fun a' W' => W = W' ∧ ∀ W2, Grow w.heap.size W' W2 → body.wpIn (Fence.wide.inRound l) 0 P (fun e a W3 => roundQ w.heap.size I Ix (pre ++ [x]) W2 e a W3 ∧ KeepO O W2 W3) a' W2) (fun _ _ _ => False))
        { tmps := (ps.zip (encs x)).foldl (fun t (p, v) => t.setIfInBounds p v) a.tmps, defers := [] } W)
    (hdone : ∀ (D : Nat) (W : World), w.heap.size ≤ D → I xs W → W.heap[D]? = some (.deferred (some [])) → Q .normal { a with defers := { target := .collected D, args := #[] } :: a.defers } W)
    (hstop : ∀ (D : Nat) (c : Code) (pre : List α) (W : World), w.heap.size ≤ D → pre <+: xs → Ix c pre W → W.heap[D]? = some (.deferred (some [])) → c.wpIn Fence.wide 0 P Q { a with defers := { target := .collected D, args := #[] } :: a.defers } W) :
    (Code.rangeFunc g ps assign body).wpIn Fence.wide 0 P Q a w := by
  refine wpIn_rangeFunc ?_
  intro fn hfn
  obtain ⟨rec, hrec⟩ : ∃ rec : LoopState → Option Code → Loop, rec = fun st pe => { state := st, pending := pe, fn, tmps := a.tmps, params := ps, assign, body, defers := w.heap.size } := ⟨_, rfl⟩
  obtain ⟨W1, hW1⟩ : ∃ W1, (w.alloc (.deferred (some []))).alloc (.loop (rec .ready none)) = W1 := ⟨_, rfl⟩
  have hsz : W1.heap.size = w.heap.size + 2 := by rw [← hW1]; simp
  have hL1 : W1.heap[w.heap.size + 1]? = some (.loop (rec .ready none)) := by
    rw [← hW1]; have := World.alloc_heap_new (w.alloc (.deferred (some []))) (.loop (rec .ready none)); rwa [World.size_alloc] at this
  have hK1 : W1.heap[w.heap.size]? = some (.deferred (some [])) := by
    rw [← hW1]; exact (Below.heap_alloc _ _ _ (by simp)).trans (World.alloc_heap_new w _)
  have hgw1 : Grow w.heap.size w W1 := by rw [← hW1]; exact (grow_alloc _ _ _).trans (grow_alloc _ _ _)
  have hI1 : I [] W1 := hI _ _ _ h0 hgw1
  refine ⟨w.heap.size + 1, [{ target := .collected w.heap.size, args := #[] }], W1, { target := .fn (.func gf) lb, args := #[.func (.yield (w.heap.size + 1)) #[] #[]] }, W1, gf,
    #[.func (.yield (w.heap.size + 1)) #[] #[]] ++ lb, W1, ?_, ?_, ?_, ?_, fun h => (by cases h), ?_⟩
  · rw [← hW1, hrec]; exact run_enterLoop_outer _ _ _ _ _
  · simp only [resolve, hg]
    simp [go_sem]
  · intro f' hf'; trivial
  · simp [invoke, go_sem, eg]
  · refine (hit (w.heap.size + 1)
      (fun R pre W => (I pre W ∧ ∀ k o, R k = some o → isData o = true ∧ W.heap[k]? = some o ∧ ¬ O W k) ∧ W.heap[w.heap.size + 1]? = some (.loop (rec .ready none)) ∧ W.heap[w.heap.size]? = some (.deferred (some [])))
      (fun pre W => ∃ c, Ix c pre W ∧ W.heap[w.heap.size + 1]? = some (.loop (rec .done (some c))) ∧ W.heap[w.heap.size]? = some (.deferred (some [])))
      W1 (by omega) (fun R pre W h => hK _ _ h.1.1) (fun R pre W h k o e => (h.1.2 k o e).2.1) (fun R pre W h => ⟨⟨h.1.1, fun k o e => by cases e⟩, h.2⟩)
      (fun R pre A B h hg => ⟨⟨hI _ _ _ h.1.1 (hg.mono (by omega)), fun k o e => ⟨(h.1.2 k o e).1, hg.data _ _ (h.1.2 k o e).2.1 (h.1.2 k o e).1, fun ho => (h.1.2 k o e).2.2 (hOg _ _ _ _ h.1.1 (hg.mono (by omega)) ho)⟩⟩, (hg.low _ (by omega) (heap_lt h.2.1)).trans h.2.1, (hg.low _ (by omega) (heap_lt h.2.2)).trans h.2.2⟩)
      (fun pre A B h hg => by
        obtain ⟨c, hc, hl, hk⟩ := h
        exact ⟨c, hIx _ _ _ _ hc (hg.mono (by omega)), (hg.low _ (by omega) (heap_lt hl)).trans hl, (hg.low _ (by omega) (heap_lt hk)).trans hk⟩)
      (fun R W2 h hg hR => ⟨⟨h.1.1, fun k o e => ⟨(hR k o e).2.1, (hR k o e).2.2, fun ho => by
        have := hO0 k W2 h.1.1 (hgw1.trans (hg.mono (by omega))) ho
        have := (hR k o e).1
        omega⟩⟩, h.2⟩)
      ⟨⟨hI1, fun k o e => by cases e⟩, hL1, hK1⟩ ?_).mono ?_
    · rintro R pre x W ⟨⟨hi, hr⟩, hl, hk⟩ hpre
      have hy := run_yield (P := P) (args := encs x) hl (by rw [hrec]; exact hps x)
      rw [hrec] at hy
      refine ⟨fn, _, assign, body, hy, (round_law (s := pre ++ [x]) (B := w.heap.size) rec hrec (by omega) hl (fun W => W.heap[w.heap.size]? = some (.deferred (some []))) (fun _ _ h hn => hn.nd _ _ (Nat.le_refl _) h rfl) (fun _ _ h => (World.putObj_heap_other (by omega)).trans h) hk
        (fun pre W => I pre W ∧ ∀ k o, R k = some o → isData o = true ∧ W.heap[k]? = some o ∧ ¬ O W k) Ix
        (fun pre A B h hg => ⟨hI _ _ _ h.1 hg, fun k o e => ⟨(h.2 k o e).1, hg.data _ _ (h.2 k o e).2.1 (h.2 k o e).1, fun ho => (h.2 k o e).2.2 (hOg _ _ _ _ h.1 hg ho)⟩⟩) hIx
        (wpIn_mono (hround _ pre x W (by omega) hi hpre) ?_)).mono ?_⟩
      · rintro e a1 W' hq
        cases e with
        | normal =>
          obtain ⟨rfl, hb⟩ := hq
          refine ⟨ND.refl _ _, fun W2 hG => wpIn_mono (hb W2 hG) ?_⟩
          rintro e a3 W3 ⟨h1, h2⟩
          have hr2 : ∀ k o, R k = some o → isData o = true ∧ W2.heap[k]? = some o ∧ ¬ O W2 k := fun k o e => ⟨(hr k o e).1, hG.data _ _ (hr k o e).2.1 (hr k o e).1, fun ho => (hr k o e).2.2 (hOg _ _ _ _ hi hG ho)⟩
          cases e with
          | normal => exact ⟨h1.1, h1.2, fun k o e => ⟨(hr2 k o e).1, (h2 k o (hr2 k o e).2.1 (hr2 k o e).1 (hr2 k o e).2.2).1, (h2 k o (hr2 k o e).2.1 (hr2 k o e).1 (hr2 k o e).2.2).2⟩⟩
          | ret => exact h1
          | exit id => exact h1
          | goto t => exact h1
          | panic ch => exact h1.elim
          | outgrown => exact h1.elim
        | exit id => exact hq.elim
        | goto l => exact hq.elim
        | ret => exact hq.elim
        | panic chain => exact hq.elim
        | outgrown => exact hq.elim
      · rintro e W3 ⟨hnd, h⟩
        refine ⟨hnd, ?_⟩
        rcases h with ⟨rfl, h1, h2, h3⟩ | ⟨rfl, c, h1, h2, h3⟩
        · exact .inl ⟨rfl, h1, h2, h3⟩
        · exact .inr ⟨rfl, c, h1, h2, h3⟩
    · rintro e W2 ⟨⟨v, rfl⟩, hnd, (⟨⟨hi, _⟩, hl, hk⟩ | ⟨pre, hpre, c, hi, hl, hk⟩)⟩
      · exact ⟨none, _, by have := run_endLoop (P := P) hl (by rw [hrec]; simp); rw [hrec] at this; exact this, hdone _ _ (Nat.le_refl _) (hI _ _ _ hi (grow_putObj _ (by omega) hl rfl)) ((World.putObj_heap_other (by omega)).trans hk)⟩
      · exact ⟨some c, _, by have := run_endLoop (P := P) hl (by rw [hrec]; simp); rw [hrec] at this; exact this, hstop _ c pre _ (Nat.le_refl _) hpre (hIx _ _ _ _ hi (grow_putObj _ (by omega) hl rfl)) ((World.putObj_heap_other (by omega)).trans hk)⟩
end Go.Proofs.YtdcjfpjpboafnaaDoor
namespace Go.Proofs.YtdcjfpjpboafnaaDoor
set_option linter.all false
open Go.RowKit Go.Shelf
attribute [local go_sem] Oper.semAt_some
set_option maxRecDepth 100000

theorem RoundIn.inRound {F : Fence} {n : Nat} {P : Program} {l : Nat} {f : FuncId} {tmps : Array Value} {assign body : Code} {w : World} {R : Ending → World → Prop} (l' : Nat) (h : RoundIn F n P l f tmps assign body w R) : RoundIn (F.inRound l') n P l f tmps assign body w R := h
theorem ND.thenGrow {B C : Nat} {W W1 W2 : World} (h : ND B W W1) (g : Grow C W1 W2) (hC : W.heap.size ≤ C) : ND B W W2 :=
  ⟨Nat.le_trans h.size g.size, fun k o hk ho hd => by
    have h1 := h.nd k o hk ho hd
    exact (g.low k (by have := heap_lt ho; omega) (heap_lt h1)).trans h1⟩
/-- Is a number in a set? -/
def inW (pw : Nat → Bool) (t : Int) : Bool := decide (0 ≤ t) && pw t.toNat
/-- The neighbours within a set, as they are gone through. -/
def nextL (J : List ArcI) (v : Nat) (m : Int) (pw : Nat → Bool) : List Int := ((outL J v m).filter (fun a => inW pw a.t)).map (·.t)
def nextK (k g n : Nat) (J : List ArcI) (ab : Nat) (A : Option Addr) (c v : Nat) (m : Int) (wg wa nb : Nat) (pw : Nat → Bool) (W : World) : Prop :=
  Box W k 66 (.pointer (some ⟨g, 0, none⟩)) ∧ Box W (k + 1) 3 (.int .i64 v) ∧ Box W (k + 2) 44 (.pointer (some ⟨wg, 0, none⟩)) ∧ Box W (k + 3) 3 (.int .i64 m) ∧ IsG W g n J ab A c ∧ IsBits W wg wa nb pw
set_option maxHeartbeats 2000000 in
theorem Next1_is (k g n : Nat) (J : List ArcI) (ab : Nat) (A : Option Addr) (c v : Nat) (m : Int) (wg wa nb : Nat) (pw : Nat → Bool) (hv : v < n) :
    IterSpecF Tryd.prog 81 #[.pointer (some ⟨k, 0, none⟩), .pointer (some ⟨k + 1, 0, none⟩), .pointer (some ⟨k + 3, 0, none⟩), .pointer (some ⟨k + 2, 0, none⟩)] encI (nextL J v m pw) (nextK k g n J ab A c v m wg wa nb pw) := by
  intro y Jf Jx W hl hK hH hJ0 hg hxg hA h0 hY
  obtain ⟨x1, x2, x3, x4, hG0, hB0⟩ := hK _ _ _ h0
  obtain ⟨w0, hw0⟩ : ∃ w0, W.alloc (.cells #[.func (.yield y) #[] #[]] 31) = w0 := ⟨_, rfl⟩
  have hf0 : Fr0 W w0 := hw0 ▸ fr_alloc _ _ _
  have hs0 : w0.heap.size = W.heap.size + 1 := by rw [← hw0]; simp
  have hby : Box w0 W.heap.size 31 (.func (.yield y) #[] #[]) := hw0 ▸ Box.new _ _ _
  have c1 := (x1.fr0 hf0).cell
  have c2 := (x2.fr0 hf0).cell
  have c4 := (x4.fr0 hf0).cell
  refine callsIn_of_wp_marks Tryd.func81 rfl trivial ?_
  simp only [Tryd.ntmps81, List.size_toArray, List.length_cons, List.length_nil, Nat.reduceAdd, Nat.reduceSub, Array.replicate_succ, Array.replicate_zero, List.push_toArray, List.append_toArray, List.nil_append, List.cons_append]
  gi_wp2_with (gi_at_call 63; refine (callsIn_wide.2 (Out_is _ _ _ _)).mono ?_; rintro e w' ⟨rfl, rfl⟩)
  obtain ⟨w2, hw2⟩ : ∃ w2, ((w0.alloc (.cells #[.pointer (some ⟨g, 0, none⟩)] 66)).alloc (.cells #[.int .i64 (v : Int)] 3)).alloc (.cells #[.int .i64 m] 3) = w2 := ⟨_, rfl⟩
  have hf2 : Fr0 w0 w2 := hw2 ▸ ((fr_alloc _ _ _).alloc _).alloc _
  have hF2 : Fr0 W w2 := hf0.trans0 hf2
  have hsz2 : w2.heap.size = W.heap.size + 4 := by rw [← hw2]; simp; omega
  have hb1 : Box w2 (W.heap.size + 1) 66 (.pointer (some ⟨g, 0, none⟩)) := hs0 ▸ (hw2 ▸ (Box.new w0 _ _).fr0 ((fr_alloc _ _ _).alloc _))
  have hb2 : Box w2 (W.heap.size + 1 + 1) 3 (.int .i64 (v : Int)) := by
    have := Box.new (w0.alloc (.cells #[.pointer (some ⟨g, 0, none⟩)] 66)) 3 (.int .i64 (v : Int))
    rw [World.size_alloc, hs0] at this
    exact hw2 ▸ this.fr0 (fr_alloc _ _ _)
  have hb3 : Box w2 (W.heap.size + 1 + 2) 3 (.int .i64 m) := by
    have := Box.new ((w0.alloc (.cells #[.pointer (some ⟨g, 0, none⟩)] 66)).alloc (.cells #[.int .i64 (v : Int)] 3)) 3 (.int .i64 m)
    rw [World.size_alloc, World.size_alloc, hs0] at this
    exact hw2 ▸ this
  have hby2 := hby.fr0 hf2
  obtain ⟨R, hR⟩ : ∃ R : Ref, R = fun k => if W.heap.size ≤ k ∧ k < W.heap.size + 4 then w2.heap[k]? else none := ⟨_, rfl⟩
  have hRof : ∀ k t u, W.heap.size ≤ k → k < W.heap.size + 4 → Box w2 k t u → R k = some (.cells #[u] t (0, 0)) := by
    intro k t u h1 h2 h3
    rw [hR]; simp only; rw [if_pos ⟨h1, h2⟩]; exact h3
  have hGrw : Grow W.heap.size W w2 := Fr0.grow hF2 _
  have hJ1 : Jf R [] w2 := by
    refine hA R w2 (hg _ _ _ _ h0 hGrw) hGrw (fun k o e => ?_)
    rw [hR] at e
    simp only at e
    split at e
    · rename_i hk
      refine ⟨hk.1, ?_, e⟩
      have hd : k = W.heap.size ∨ k = W.heap.size + 1 ∨ k = W.heap.size + 1 + 1 ∨ k = W.heap.size + 1 + 2 := by omega
      rcases hd with rfl | rfl | rfl | rfl
      · unfold Box at hby2; rw [hby2] at e; cases e; rfl
      · unfold Box at hb1; rw [hb1] at e; cases e; rfl
      · unfold Box at hb2; rw [hb2] at e; cases e; rfl
      · unfold Box at hb3; rw [hb3] at e; cases e; rfl
    · cases e
  have hof : ∀ pre W1, Jf R pre W1 → Box W1 W.heap.size 31 (.func (.yield y) #[] #[]) ∧ outK (W.heap.size + 1) g n J ab A c v m W1 := fun pre W1 h => by
    have hh := hH _ _ _ h
    obtain ⟨_, _, _, _, hg', _⟩ := hK _ _ _ h
    exact ⟨hh _ _ (hRof _ _ _ (by omega) (by omega) hby2), hh _ _ (hRof _ _ _ (by omega) (by omega) hb1), hh _ _ (hRof _ _ _ (by omega) (by omega) hb2), hh _ _ (hRof _ _ _ (by omega) (by omega) hb3), hg'⟩
  rw [hw2]
  have HOF := Lib.hid hof
  have HW0 := Lib.hid hw0
  have HW2 := Lib.hid hw2
  clear hR hRof hof hw0 hw2 hby hby2 hb1 hb2 hb3 c1 c2 c4
  refine range_law (gf := 77) (lb := #[.pointer (some ⟨W.heap.size + 1, 0, none⟩), .pointer (some ⟨W.heap.size + 1 + 1, 0, none⟩), .pointer (some ⟨W.heap.size + 1 + 2, 0, none⟩)]) rfl (enters_of Tryd.func77 (by kernel_rfl) rfl)
    (Out1_is (W.heap.size + 1) g n J ab A c v m hv) (fun _ => rfl)
    (fun pre W' => Jf R ((pre.filter (fun a => inW pw a.t)).map (·.t)) W' ∧ ND (y + 1) W W')
    (fun cc pre W' => cc = .ret ∧ Jx ((pre.filter (fun a => inW pw a.t)).map (·.t)) W' ∧ ND (y + 1) W W') (fun pre W1 h => (HOF.out _ _ h.1).2)
    ?stab ?stab2 ⟨hJ1, hF2.ND _⟩ ?round ?done ?stop
  case stab => exact fun pre W1 W2 h hG => ⟨hg _ _ _ _ h.1 (hG.mono (by omega)), h.2.thenGrow hG (by omega)⟩
  case stab2 => exact fun cc pre W1 W2 h hG => ⟨h.1, hxg _ _ _ h.2.1 (hG.mono (by omega)), h.2.2.thenGrow hG (by omega)⟩
  case done =>
    intro D Wd hD hI hk2
    refine leave0n rfl hk2 fun W' hG => ⟨⟨_, rfl⟩, hI.2.thenGrow hG (by omega), .inl (hg _ _ _ _ (hJ0 _ _ _ hI.1) (hG.mono (by omega)))⟩
  case stop =>
    rintro D cc pre Wd hD hpre ⟨rfl, hx, hnd⟩ hk2
    gi_wp2
    refine leave0 rfl hk2 fun W' hG => ⟨⟨_, rfl⟩, hnd.thenGrow hG (by omega), .inr ⟨_, (hpre.filter _).map _, hxg _ _ _ hx (hG.mono (by omega))⟩⟩
  case round =>
    intro l pre x Wx hlx hI hpre
    gi_wp2
    refine ⟨ND.refl _ _, fun W2 hG => ?_⟩
    have hJ2 := hg _ _ _ _ hI.1 (hG.mono (by omega))
    obtain ⟨hyb, _⟩ := HOF.out _ _ hJ2
    obtain ⟨_, _, y3, _, _, hBits⟩ := hK _ _ _ hJ2
    have hyc := hyb.cell
    have y3c := y3.cell
    have HH := Lib.hid (Has_is hBits x.t)
    have hfp : (pre ++ [x]).filter (fun a => inW pw a.t) <+: (outL J v m).filter (fun a => inW pw a.t) := hpre.filter _
    rw [List.filter_append, List.filter_cons, List.filter_nil] at hfp
    have hnd2 : ND (y + 1) W W2 := hI.2.thenGrow hG (by omega)
    have hin : inW pw x.t = (decide (0 ≤ x.t) && pw x.t.toNat) := rfl
    rw [← hin] at HH
    cases hw : inW pw x.t with
    | false =>
      rw [hw] at HH
      gi_wp2_with (gi_at_call 51; refine (CallsIn.inRound l (callsIn_wide.2 HH.out)).mono ?_; rintro e w' ⟨rfl, rfl⟩)
      refine ⟨ND.refl _ _, ?_, hnd2⟩
      rw [List.filter_append, List.filter_cons, List.filter_nil, hw]
      simpa using hJ2
    | true =>
      rw [hw] at HH hfp
      have hpy : ((pre.filter (fun a => inW pw a.t)).map (·.t)) ++ [x.t] <+: nextL J v m pw := by
        have := hfp.map (·.t)
        simpa [nextL] using this
      have hpe : (((pre ++ [x]).filter (fun a => inW pw a.t)).map (·.t)) = ((pre.filter (fun a => inW pw a.t)).map (·.t)) ++ [x.t] := by
        rw [List.filter_append, List.filter_cons, List.filter_nil, hw]; simp
      have HPE := Lib.hid hpe
      obtain ⟨fn, tmps, assign, body, hy, hRd⟩ := hY R _ x.t W2 hJ2 hpy
      clear hpe hw hfp
      gi_wp2_with (gi_at_call 51; refine (CallsIn.inRound l (callsIn_wide.2 HH.out)).mono ?_; rintro e w' ⟨rfl, rfl⟩)
      refine (RoundIn.inRound l hRd).mono ?_
      rintro e W3 hp
      obtain ⟨b, rfl, hyn, hyc2⟩ := yield_any hp
      cases b with
      | true =>
        gi_wp2
        refine ⟨hyn.mono (by omega), ?_, hnd2.trans hyn⟩
        rw [HPE.out]
        rcases hyc2 with ⟨_, h⟩ | ⟨e, _⟩
        · exact h
        · cases e
      | false =>
        gi_wp2
        refine ⟨hyn.mono (by omega), rfl, ?_, hnd2.trans hyn⟩
        rw [HPE.out]
        rcases hyc2 with ⟨e, _⟩ | ⟨_, h⟩
        · cases e
        · exact h
end Go.Proofs.YtdcjfpjpboafnaaDoor
namespace Go.Proofs.YtdcjfpjpboafnaaDoor
set_option linter.all false
open Go.RowKit
set_option maxRecDepth 100000

/-- The blocks that spread writes. -/
def SpO (q ma : Nat) (W : World) (k : Nat) : Prop := k = q ∨ k = ma ∨ ∃ N, W.cell? ⟨q, 0, none⟩ = some (.slice (some ⟨k, 0, none⟩) N N)
theorem IsBits.wtype {W : World} {g a n : Nat} {p : Nat → Bool} (h : IsBits W g a n p) {t : Nat} {cs : Array Value} {fz : Nat × Nat} (hk : W.heap[a]? = some (.cells cs t fz)) : t = 99 := by
  obtain ⟨ws, _, _, h3, _⟩ := h.words
  rw [h3] at hk; injection hk with hk; injection hk with _ hk _; exact hk.symm
theorem IsBits.gtype {W : World} {g a n : Nat} {p : Nat → Bool} (h : IsBits W g a n p) {t : Nat} {cs : Array Value} {fz : Nat × Nat} (hk : W.heap[g]? = some (.cells cs t fz)) : t = 79 := by
  obtain ⟨ws, _, h2, _, _⟩ := h.words
  rw [h2] at hk; injection hk with hk; injection hk with _ hk _; exact hk.symm
def putM (pm : Nat → Bool) (v : Int) : Nat → Bool := fun k => pm k || decide ((k : Int) = v)
end Go.Proofs.YtdcjfpjpboafnaaDoor
namespace Go.Proofs.YtdcjfpjpboafnaaDoor
set_option linter.all false
open Go.RowKit

/-- What has been met, and what is still to be looked at. -/
structure Bq (n : Nat) (pm : Nat → Bool) (l : List Int) : Prop where
  lt : ∀ u, pm u = true → u < n
  sub : ∀ x ∈ l, ∃ u : Nat, x = (u : Int) ∧ u < n ∧ pm u = true
  cnt : l.length ≤ (elems n pm).length
theorem Bq.len {n : Nat} {pm : Nat → Bool} {l : List Int} (h : Bq n pm l) : l.length ≤ n := Nat.le_trans h.cnt (elems_len n pm)
theorem filter_one {p q : Nat → Bool} {v : Nat} (hq : ∀ k, q k = (p k || decide (k = v))) (hv : p v = false) : ∀ {l : List Nat}, l.Nodup → v ∈ l → (l.filter q).length = (l.filter p).length + 1
  | [], _, h => by cases h
  | x :: xs, hn, h => by
    obtain ⟨h1, h2⟩ := List.nodup_cons.1 hn
    by_cases e : x = v
    · subst e
      have hqx : q x = true := by rw [hq]; simp
      rw [List.filter_cons_of_pos hqx, List.filter_cons_of_neg (by simp [hv])]
      have : xs.filter q = xs.filter p := List.filter_congr (fun y hy => by
        rw [hq]
        have : y ≠ x := fun e => h1 (e ▸ hy)
        simp [this])
      rw [this]; simp
    · have hm : v ∈ xs := by
        rcases List.mem_cons.1 h with h | h
        · exact absurd h.symm e
        · exact h
      have ih := filter_one hq hv h2 hm
      have hqx : q x = p x := by rw [hq]; simp [e]
      cases hp : p x with
      | true => rw [List.filter_cons_of_pos (hqx.trans hp), List.filter_cons_of_pos hp]; simp [ih]
      | false => rw [List.filter_cons_of_neg (by simp [hqx, hp]), List.filter_cons_of_neg (by simp [hp])]; exact ih
theorem putM_cnt {n v : Nat} {pm : Nat → Bool} (hv : v < n) (h : pm v = false) : (elems n (putM pm (v : Int))).length = (elems n pm).length + 1 :=
  filter_one (fun k => by
    have e : ((k : Int) = (v : Int)) = (k = v) := propext (by omega)
    simp only [putM, e]) h List.nodup_range (List.mem_range.2 hv)
theorem Bq.put {n v : Nat} {pm : Nat → Bool} {l : List Int} (h : Bq n pm l) (hv : v < n) (hm : pm v = false) : Bq n (putM pm (v : Int)) (l ++ [(v : Int)]) := by
  refine ⟨fun u hu => ?_, fun x hx => ?_, ?_⟩
  · simp only [putM, Bool.or_eq_true, decide_eq_true_eq] at hu
    rcases hu with hu | hu
    · exact h.lt u hu
    · omega
  · rcases List.mem_append.1 hx with hx | hx
    · obtain ⟨u, h1, h2, h3⟩ := h.sub x hx
      exact ⟨u, h1, h2, by simp [putM, h3]⟩
    · rw [List.mem_singleton] at hx
      exact ⟨v, hx, hv, by simp [putM]⟩
  · rw [putM_cnt hv hm, List.length_append, List.length_singleton]
    have := h.cnt
    omega
theorem Bq.steal {n : Nat} {pm : Nat → Bool} {x : Int} {l : List Int} (h : Bq n pm (x :: l)) : Bq n pm l :=
  ⟨h.lt, fun y hy => h.sub y (List.mem_cons_of_mem _ hy), by have := h.cnt; simp at this; omega⟩
/-- The starts within, below n. -/
def startB (n : Nat) (ps pw : Nat → Bool) (u : Nat) : Bool := ps u && pw u && decide (u < n)
/-- An arc within a set. -/
def arcB (n : Nat) (J : List ArcI) (m : Int) (pw : Nat → Bool) (u w : Nat) : Bool := rowM n J m u w && pw w
/-- All that is led to. -/
def fromB (n : Nat) (J : List ArcI) (m : Int) (ps pw : Nat → Bool) : Nat → Bool := iterP n (arcB n J m pw) (startB n ps pw) (n + 1)
theorem fromB_iff {n : Nat} {J : List ArcI} {m : Int} {ps pw : Nat → Bool} (w : Nat) : fromB n J m ps pw w = true ↔ ∃ u, startB n ps pw u = true ∧ (u = w ∨ Reach (arcB n J m pw) u w) :=
  iterP_all (fun w hw => by simp only [startB, Bool.and_eq_true, decide_eq_true_eq] at hw; exact hw.2) (fun u w h => by simp only [arcB, Bool.and_eq_true] at h; exact rowM_lt m u w h.1) (Nat.le_succ n) w
/-- Where the search stands: sound, the starts in it, closed but for what is pending. -/
structure Bfs (n : Nat) (J : List ArcI) (m : Int) (ps pw pm : Nat → Bool) (pend : List Int) : Prop where
  sound : ∀ u, pm u = true → fromB n J m ps pw u = true
  has : ∀ u, startB n ps pw u = true → pm u = true
  closed : ∀ u, pm u = true → (u : Int) ∉ pend → ∀ w, arcB n J m pw u w = true → pm w = true
theorem Bfs.done {n : Nat} {J : List ArcI} {m : Int} {ps pw pm : Nat → Bool} (h : Bfs n J m ps pw pm []) (w : Nat) : pm w = fromB n J m ps pw w := by
  rw [Bool.eq_iff_iff]
  refine ⟨h.sound w, fun hw => ?_⟩
  obtain ⟨u, hu, hr⟩ := (fromB_iff w).1 hw
  have h0 := h.has u hu
  rcases hr with rfl | hr
  · exact h0
  · have key : ∀ a b, Reach (arcB n J m pw) a b → pm a = true → pm b = true := fun a b hr => by
      induction hr with
      | one h1 => exact fun ha => h.closed _ ha (by simp) _ h1
      | more h1 _ ih => exact fun ha => ih (h.closed _ ha (by simp) _ h1)
    exact key _ _ hr h0
theorem next_arc {n : Nat} {J : List ArcI} {m : Int} {pw : Nat → Bool} {u w : Nat} : ((w : Int) ∈ nextL J u m pw ∧ w < n) ↔ arcB n J m pw u w = true := by
  rw [arcB, rowM, putP, Bool.false_or, Bool.and_eq_true, Bool.and_eq_true, decide_eq_true_iff, decide_eq_true_iff, nextL, List.mem_map, List.mem_map]
  constructor
  · rintro ⟨⟨a, ha, e⟩, hw⟩
    obtain ⟨h1, h2⟩ := List.mem_filter.1 ha
    refine ⟨⟨hw, a, h1, e⟩, ?_⟩
    rw [e, inW, Bool.and_eq_true, Int.toNat_natCast] at h2
    exact h2.2
  · rintro ⟨⟨hw, a, ha, e⟩, hp⟩
    refine ⟨⟨a, List.mem_filter.2 ⟨ha, ?_⟩, e⟩, hw⟩
    rw [e, inW, Bool.and_eq_true, Int.toNat_natCast]
    exact ⟨by simp, hp⟩
/-- One neighbour is put. -/
theorem bq_next {n : Nat} {pm pm0 pw : Nat → Bool} {l l0 pre : List Int} {v : Int} (h : Bq n pm l) (hI : ∀ w : Nat, pm w = true ↔ pm0 w = true ∨ ((w : Int) ∈ pre ∧ w < n))
    (hP : ∀ w : Nat, pm w = true → (w : Int) ∉ l → pm0 w = true ∧ (w : Int) ∉ l0) (hc : (elems n pm).length + l0.length = (elems n pm0).length + l.length) (hv : inW pw v = true) :
    Bq n (if inW pw v && decide (v < n) && !pm v.toNat then putM pm v else pm) (if inW pw v && decide (v < n) && !pm v.toNat then l ++ [v] else l) ∧
      (∀ w : Nat, (if inW pw v && decide (v < n) && !pm v.toNat then putM pm v else pm) w = true ↔ pm0 w = true ∨ ((w : Int) ∈ pre ++ [v] ∧ w < n)) ∧
      (∀ w : Nat, (if inW pw v && decide (v < n) && !pm v.toNat then putM pm v else pm) w = true → (w : Int) ∉ (if inW pw v && decide (v < n) && !pm v.toNat then l ++ [v] else l) → pm0 w = true ∧ (w : Int) ∉ l0) ∧
      (elems n (if inW pw v && decide (v < n) && !pm v.toNat then putM pm v else pm)).length + l0.length = (elems n pm0).length + (if inW pw v && decide (v < n) && !pm v.toNat then l ++ [v] else l).length := by
  have hv0 : 0 ≤ v := by
    simp only [inW, Bool.and_eq_true, decide_eq_true_eq] at hv
    exact hv.1
  obtain ⟨x, rfl⟩ := Int.eq_ofNat_of_zero_le hv0
  rw [hv, Bool.true_and]
  have e0 : (x : Int).toNat = x := Int.toNat_natCast x
  by_cases hcnd : (decide ((x : Int) < n) && !pm (x : Int).toNat) = true
  · simp only [hcnd, if_true]
    rw [e0] at hcnd
    simp only [Bool.and_eq_true, decide_eq_true_eq, Bool.not_eq_true'] at hcnd
    obtain ⟨c2, c3⟩ := hcnd
    refine ⟨h.put (by omega) c3, fun w => ?_, fun w hw hn => ?_, ?_⟩
    · simp only [putM, Bool.or_eq_true, decide_eq_true_eq, List.mem_append, List.mem_singleton, hI w]
      constructor
      · rintro ((a | ⟨a, b⟩) | e)
        · exact .inl a
        · exact .inr ⟨.inl a, b⟩
        · exact .inr ⟨.inr e, by omega⟩
      · rintro (a | ⟨a | e, b⟩)
        · exact .inl (.inl a)
        · exact .inl (.inr ⟨a, b⟩)
        · exact .inr e
    · simp only [putM, Bool.or_eq_true, decide_eq_true_eq] at hw
      rw [List.mem_append, List.mem_singleton, not_or] at hn
      rcases hw with hw | hw
      · exact hP w hw hn.1
      · exact absurd hw hn.2
    · rw [putM_cnt (by omega) c3, List.length_append, List.length_singleton]
      omega
  · rw [if_neg hcnd, if_neg hcnd]
    refine ⟨h, fun w => ?_, hP, hc⟩
    rw [hI w, List.mem_append, List.mem_singleton]
    constructor
    · rintro (a | ⟨a, b⟩)
      · exact .inl a
      · exact .inr ⟨.inl a, b⟩
    · rintro (a | ⟨a | e, b⟩)
      · exact .inl a
      · exact .inr ⟨a, b⟩
      · have : w = x := by omega
        subst this
        rw [e0] at hcnd
        simp only [Bool.and_eq_true, decide_eq_true_eq, Bool.not_eq_true', not_and, Bool.not_eq_false] at hcnd
        exact (hI w).1 (hcnd (by omega))
theorem Bfs.next {n : Nat} {J : List ArcI} {m : Int} {ps pw pm0 pm : Nat → Bool} {u : Nat} {l l0 : List Int} (h : Bfs n J m ps pw pm0 ((u : Int) :: l0)) (hu : pm0 u = true)
    (hI : ∀ w : Nat, pm w = true ↔ pm0 w = true ∨ ((w : Int) ∈ nextL J u m pw ∧ w < n)) (hP : ∀ w : Nat, pm w = true → (w : Int) ∉ l → pm0 w = true ∧ (w : Int) ∉ l0) : Bfs n J m ps pw pm l := by
  refine ⟨fun w hw => ?_, fun w hw => (hI w).2 (.inl (h.has w hw)), fun a ha hl w hw => ?_⟩
  · rcases (hI w).1 hw with hw | hw
    · exact h.sound w hw
    · have h1 := next_arc.1 hw
      obtain ⟨s, hs, hr⟩ := (fromB_iff u).1 (h.sound u hu)
      refine (fromB_iff w).2 ⟨s, hs, .inr ?_⟩
      rcases hr with rfl | hr
      · exact .one h1
      · exact hr.trans (.one h1)
  · obtain ⟨k1, k2⟩ := hP a ha hl
    by_cases e : a = u
    · subst e
      exact (hI w).2 (.inr (next_arc.2 hw))
    · refine (hI w).2 (.inl (h.closed a k1 ?_ w hw))
      rw [List.mem_cons, not_or]
      exact ⟨by omega, k2⟩
theorem Bfs.start {n : Nat} {J : List ArcI} {m : Int} {ps pw pm : Nat → Bool} {l : List Int} {ns : Nat} (hps : ∀ u, ps u = true → u < ns) (hI : ∀ u, pm u = true ↔ u ∈ elems ns ps ∧ pw u = true ∧ u < n) (hl : ∀ u : Nat, pm u = true → (u : Int) ∈ l) : Bfs n J m ps pw pm l := by
  have hs : ∀ u, pm u = true ↔ startB n ps pw u = true := fun u => by
    rw [hI u, mem_elems, startB, Bool.and_eq_true, Bool.and_eq_true, decide_eq_true_iff]
    exact ⟨fun ⟨⟨_, a⟩, b, c⟩ => ⟨⟨a, b⟩, c⟩, fun ⟨⟨a, b⟩, c⟩ => ⟨⟨hps u a, a⟩, b, c⟩⟩
  exact ⟨fun u hu => (fromB_iff u).2 ⟨u, (hs u).1 hu, .inl rfl⟩, fun u hu => (hs u).2 hu, fun u hu hn => absurd (hl u hu) hn⟩
end Go.Proofs.YtdcjfpjpboafnaaDoor
namespace Go.Proofs.YtdcjfpjpboafnaaDoor
set_option linter.all false
open Go.RowKit Go.Shelf
attribute [local go_sem] Oper.semAt_some
set_option maxRecDepth 100000

/-- A loop with a measure of one's own. -/
theorem wpIn_loop_own {F : Fence} {nn : Nat} {P : Program} {c : Code} {Q : Exit → Act → World → Prop} {a : Act} {w : World} (R : Nat → Act → World → Prop) {k : Nat} (h0 : R k a w)
    (round : ∀ k a w, R k a w → c.wpIn F nn P (Exit.then (fun a' w' => ∃ k', k' < k ∧ R k' a' w') Q) a w) : (Code.loop c).wpIn F nn P Q a w := by
  classical
  have hmin : ∀ k a w, R k a w → ∃ k0, R k0 a w ∧ ∀ j, R j a w → k0 ≤ j := by
    intro k a w
    induction k using Nat.strongRecOn with
    | _ k ih =>
      intro h
      by_cases h2 : ∃ j, j < k ∧ R j a w
      · obtain ⟨j, hj, hr⟩ := h2; exact ih j hj hr
      · exact ⟨k, h, fun j hj => Nat.le_of_not_lt (fun hlt => h2 ⟨j, hlt, hj⟩)⟩
  refine wpIn_loop (fun a w => ∃ k, R k a w) (fun a w => if h : ∃ k, R k a w then Classical.choose (hmin _ a w (Classical.choose_spec h)) else 0) ⟨k, h0⟩ ?_
  intro a w hR
  have hs := Classical.choose_spec (hmin _ a w (Classical.choose_spec hR))
  refine wpIn_mono (round _ a w hs.1) ?_
  rintro e a' w' hq
  cases e with
  | normal =>
    obtain ⟨k', hk, hr⟩ := hq
    have hR' : ∃ k, R k a' w' := ⟨k', hr⟩
    refine ⟨hR', ?_⟩
    have hs' := Classical.choose_spec (hmin _ a' w' (Classical.choose_spec hR'))
    simp only [hR, hR', dif_pos]
    exact Nat.lt_of_le_of_lt (hs'.2 _ hr) hk
  | exit id => exact hq
  | goto l => exact hq
  | ret => exact hq
  | panic chain => exact hq
  | outgrown => exact hq
theorem bq_step {n : Nat} {pm pw : Nat → Bool} {l : List Int} {pre : List Nat} {x : Nat} (h : Bq n pm l) (hI : ∀ u, pm u = true ↔ u ∈ pre ∧ pw u = true ∧ u < n) (hL : ∀ u : Nat, pm u = true → (u : Int) ∈ l) :
    Bq n (if inW pw x && decide ((x : Int) < n) && !pm (x : Int).toNat then putM pm x else pm) (if inW pw x && decide ((x : Int) < n) && !pm (x : Int).toNat then l ++ [(x : Int)] else l) ∧
      (∀ u, (if inW pw x && decide ((x : Int) < n) && !pm (x : Int).toNat then putM pm x else pm) u = true ↔ u ∈ pre ++ [x] ∧ pw u = true ∧ u < n) ∧ ∀ u : Nat, (if inW pw x && decide ((x : Int) < n) && !pm (x : Int).toNat then putM pm x else pm) u = true → (u : Int) ∈ (if inW pw x && decide ((x : Int) < n) && !pm (x : Int).toNat then l ++ [(x : Int)] else l) := by
  have hi : inW pw x = pw x := by simp [inW]
  rw [hi, Int.toNat_natCast]
  by_cases hc : (pw x && decide ((x : Int) < n) && !pm x) = true
  · simp only [hc, if_true]
    simp only [Bool.and_eq_true, decide_eq_true_eq, Bool.not_eq_true'] at hc
    obtain ⟨⟨c1, c2⟩, c3⟩ := hc
    refine ⟨h.put (by omega) c3, fun u => ?_, fun u hu => ?_⟩
    rotate_left
    · simp only [putM, Bool.or_eq_true, decide_eq_true_eq] at hu
      rw [List.mem_append, List.mem_singleton]
      exact hu.imp (hL u) id
    simp only [putM, Bool.or_eq_true, decide_eq_true_eq, List.mem_append, List.mem_singleton, hI u]
    constructor
    · rintro (⟨a, b, c⟩ | e)
      · exact ⟨.inl a, b, c⟩
      · have : u = x := by omega
        subst this
        exact ⟨.inr rfl, c1, by omega⟩
    · rintro ⟨a | rfl, b, c⟩
      · exact .inl ⟨a, b, c⟩
      · exact .inr rfl
  · rw [if_neg hc, if_neg hc]
    refine ⟨h, fun u => ?_, hL⟩
    rw [hI u, List.mem_append, List.mem_singleton]
    constructor
    · rintro ⟨a, b, c⟩
      exact ⟨.inl a, b, c⟩
    · rintro ⟨a | rfl, b, c⟩
      · exact ⟨a, b, c⟩
      · refine ⟨?_, b, c⟩
        simp only [Bool.and_eq_true, decide_eq_true_eq, Bool.not_eq_true', not_and, Bool.not_eq_false] at hc
        exact ((hI u).1 (hc ⟨b, by omega⟩)).1
theorem NextF_is (p wp : Option Addr) (v m : Int) (w : World) : Calls Tryd.prog 72 #[.pointer p, .int .i64 v, .pointer wp, .int .i64 m] w fun e w' =>
    e = .returned (.func (.func 81) #[] #[.pointer (some ⟨w.heap.size, 0, none⟩), .pointer (some ⟨w.heap.size + 1, 0, none⟩), .pointer (some ⟨w.heap.size + 3, 0, none⟩), .pointer (some ⟨w.heap.size + 2, 0, none⟩)]) ∧
    w' = (((w.alloc (.cells #[.pointer p] 66)).alloc (.cells #[.int .i64 v] 3)).alloc (.cells #[.pointer wp] 44)).alloc (.cells #[.int .i64 m] 3) := by
  go_enter Tryd.func72, Tryd.ntmps72
  go_wp2
  go_ret
  exact ⟨rfl, rfl⟩
theorem take_split {n : Nat} {J : List ArcI} {m : Int} {ps pw pm : Nat → Bool} {l : List Int} {x : Int} {b : Bool} {X : List Int → Prop} (hq : Bq n pm l) (hb : Bfs n J m ps pw pm l) (y : (l = [] ∧ b = false ∧ X []) ∨ (∃ r, l = x :: r ∧ b = true ∧ X r)) :
    ∃ lr, X lr ∧ (if b = true then Bq n pm (x :: lr) ∧ Bfs n J m ps pw pm (x :: lr) else lr = [] ∧ Bfs n J m ps pw pm []) ∧ lr.length + (if b = true then 1 else 0) = l.length := by
  rcases y with ⟨rfl, rfl, h⟩ | ⟨r, rfl, rfl, h⟩
  · exact ⟨[], h, by simpa using hb, by simp⟩
  · exact ⟨r, h, by simpa using ⟨hq, hb⟩, by simp⟩
def SpreadPost (W : World) (n : Nat) (pm : Nat → Bool) (v : Value) (w' : World) : Prop :=
  ∃ g a, v = .pointer (some ⟨g, 0, none⟩) ∧ W.heap.size ≤ g ∧ W.heap.size ≤ a ∧ Fr0 W w' ∧ IsBits w' g a n pm
end Go.Proofs.YtdcjfpjpboafnaaDoor
namespace Go.Proofs.YtdcjfpjpboafnaaDoor
set_option linter.all false
open Go.RowKit Go.Shelf
attribute [local go_sem] Oper.semAt_some
set_option maxRecDepth 100000

/-- A graph both ways, or none. -/
def IsR (W : World) (r p pt : Option Addr) : Prop :=
  (r = none ∧ p = none ∧ pt = none) ∨ ∃ h, r = some ⟨h, 0, none⟩ ∧ W.heap[h]? = some (.cells #[.pointer p, .pointer pt] 91 (0, 0))
theorem IsR.fr0 {W W' : World} {r p pt : Option Addr} (h : IsR W r p pt) (f : Fr0 W W') : IsR W' r p pt :=
  h.imp id (fun ⟨b, e, k⟩ => ⟨b, e, f.heap k (fun x => x)⟩)
theorem IsR.grow {W W' : World} {C : Nat} {r p pt : Option Addr} (h : IsR W r p pt) (f : Grow C W W') : IsR W' r p pt :=
  h.imp id (fun ⟨b, e, k⟩ => ⟨b, e, f.heap k⟩)
theorem Way_is {W : World} {r p pt : Option Addr} (h : IsR W r p pt) (b : Bool) :
    Calls Tryd.prog 73 #[.pointer r, .bool b] W fun e w' => e = .returned (.pointer (if b = true then pt else p)) ∧ W = w' := by
  rcases h with ⟨rfl, rfl, rfl⟩ | ⟨g, rfl, hk⟩
  · cases b <;>
    · go_enter Tryd.func73, Tryd.ntmps73
      go_wp2
      go_ret
      exact ⟨rfl, rfl⟩
  · have c0 : W.cell? ⟨g, 0, none⟩ = some (.pointer p) := by simp [World.cell?, hk]
    have c1 : W.cell? ⟨g, 1, none⟩ = some (.pointer pt) := by simp [World.cell?, hk]
    cases b with
    | false =>
      go_enter Tryd.func73, Tryd.ntmps73
      go_wp2
      go_ret
      exact ⟨rfl, rfl⟩
    | true =>
      go_enter Tryd.func73, Tryd.ntmps73
      go_wp2
      go_ret
      exact ⟨rfl, rfl⟩
theorem LenR_is {W : World} {r p pt : Option Addr} {n : Nat} {J : List ArcI} (h : IsR W r p pt) (hg : GP W p n J) :
    Calls Tryd.prog 25 #[.pointer r] W fun e w' => e = .returned (.int .i64 n) ∧ W = w' := by
  rcases h with ⟨rfl, rfl, rfl⟩ | ⟨g, rfl, hk⟩
  · have hn : n = 0 := by
      rcases hg with ⟨_, h, _⟩ | ⟨_, _, _, _, e, _⟩
      · exact h
      · cases e
    subst hn
    go_enter Tryd.func25, Tryd.ntmps25
    go_wp2
    go_ret
    exact ⟨rfl, rfl⟩
  · have c0 : W.cell? ⟨g, 0, none⟩ = some (.pointer p) := by simp [World.cell?, hk]
    have HL := Lib.hid (LenP_is hg)
    clear hg
    go_enter Tryd.func25, Tryd.ntmps25
    go_wp2_with (go_at_call 38; refine (HL.out).mono ?_; rintro e w' ⟨rfl, rfl⟩)
    go_ret
    exact ⟨rfl, rfl⟩
def NewRPost (W : World) (p : Option Addr) (n : Nat) (J : List ArcI) (v : Value) (w' : World) : Prop :=
  ∃ r pt J', v = .pointer r ∧ Fr0 W w' ∧ IsR w' r p pt ∧ GP w' p n J ∧ GP w' pt n J' ∧ Built n (turnL J n) J'
theorem NewR_is {W : World} {p : Option Addr} {n : Nat} {J : List ArcI} (hg : GP W p n J) (hok : JOk n J) (hsm : J.length ≤ 1000000) :
    Calls Tryd.prog 28 #[.pointer p] W (Rets (NewRPost W p n J)) := by
  have HT := Lib.hid (TurnG_is hg hok hsm)
  have HG := Lib.hid hg
  clear hg
  go_enter Tryd.func28, Tryd.ntmps28
  go_wp2_with (go_at_call 43; refine (HT.out).mono ?_; rintro e w1 ⟨_, rfl, g, J', rfl, k1, k2, k3⟩)
  go_ret
  have hf : Fr0 w1 (w1.alloc (.cells #[.pointer p, .pointer (some ⟨g, 0, none⟩)] 91)) := fr_alloc _ _ _
  exact ⟨_, rfl, _, _, J', rfl, k1.trans0 hf, .inr ⟨_, rfl, World.alloc_heap_new _ _⟩, HG.out.fr0 (k1.trans0 hf), k3.fr0 hf, k2⟩
def SetPost (W : World) (n : Nat) (pm : Nat → Bool) (v : Value) (w' : World) : Prop := SpreadPost W n pm v w'
/-- What Out and In give, and where. -/
def NextPost (p wp : Option Addr) (v m : Int) (w : World) (e : Ending) (w' : World) : Prop :=
  e = .returned (.func (.func 81) #[] #[.pointer (some ⟨w.heap.size, 0, none⟩), .pointer (some ⟨w.heap.size + 1, 0, none⟩), .pointer (some ⟨w.heap.size + 3, 0, none⟩), .pointer (some ⟨w.heap.size + 2, 0, none⟩)]) ∧
    w' = (((w.alloc (.cells #[.pointer p] 66)).alloc (.cells #[.int .i64 v] 3)).alloc (.cells #[.pointer wp] 44)).alloc (.cells #[.int .i64 m] 3)
theorem OutN_is {W : World} {r p pt : Option Addr} (h : IsR W r p pt) (wp : Option Addr) (v m : Int) :
    Calls Tryd.prog 66 #[.pointer r, .int .i64 v, .pointer wp, .int .i64 m] W (NextPost p wp v m W) := by
  have HW := Lib.hid (Way_is h false)
  clear h
  go_enter Tryd.func66, Tryd.ntmps66
  go_wp2_with (first
    | (go_at_call 73; refine (HW.out).mono ?_; rintro e w' ⟨rfl, rfl⟩; simp only [Bool.false_eq_true, if_false])
    | (go_at_call 72; refine (NextF_is _ _ _ _ _).mono ?_; rintro e w' ⟨rfl, rfl⟩))
  go_ret
  exact ⟨rfl, rfl⟩
theorem InN_is {W : World} {r p pt : Option Addr} (h : IsR W r p pt) (wp : Option Addr) (v m : Int) :
    Calls Tryd.prog 56 #[.pointer r, .int .i64 v, .pointer wp, .int .i64 m] W (NextPost pt wp v m W) := by
  have HW := Lib.hid (Way_is h true)
  clear h
  go_enter Tryd.func56, Tryd.ntmps56
  go_wp2_with (first
    | (go_at_call 73; refine (HW.out).mono ?_; rintro e w' ⟨rfl, rfl⟩; simp only [if_true])
    | (go_at_call 72; refine (NextF_is _ _ _ _ _).mono ?_; rintro e w' ⟨rfl, rfl⟩))
  go_ret
  exact ⟨rfl, rfl⟩
end Go.Proofs.YtdcjfpjpboafnaaDoor
