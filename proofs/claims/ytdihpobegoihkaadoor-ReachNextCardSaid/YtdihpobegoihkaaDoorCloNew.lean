/- What leads where: New. -/
import Derived.Test.YtdihpobegoihkaaDoorMarks
import Derived.BigRegion
import Derived.BigRegionIn
namespace Go.Proofs.YtdihpobegoihkaaDoor
set_option linter.all false
open Go.RowKit Go.Shelf
attribute [local go_sem] Oper.semAt_some
attribute [local go_sem ↓] appendH_eq
set_option maxRecDepth 100000

/-- The row of a vertex: where its arcs of a mask lead. -/
def rowM (n : Nat) (J : List ArcI) (m : Int) (i : Nat) : Nat → Bool := putP n (fun _ => false) ((outL J i m).map (·.t))
/-- A closure that is being built. -/
structure Bld (W wr : World) (cg n k : Nat) (L : List (Nat × Nat)) (M : Nat → Nat → Bool) : Prop where
  tab : Tab wr
  fr : Fr0 W wr
  len : L.length = k
  rows : ∃ v, wr.heap[cg]? = some (.cells #[v] 74 (0, 0)) ∧ wr.ownsRow W.heap.size 34 1 v k (ptrs L)
  bits : ∀ i, i < k → IsBits wr (L.getD i default).1 (L.getD i default).2 n (M i)
  own : ∀ i, i < k → W.heap.size ≤ (L.getD i default).2
  apart : ∀ i j, i < j → j < k → (L.getD i default).2 ≠ (L.getD j default).2
/-- Between two rounds of the loop that lays the rows (printed by genclo.py). -/
def CloI (W : World) (p : Option Addr) (m : Int) (n cg : Nat) (M : Nat → Nat → Bool) (a : Act) (w : World) : Prop :=
  ∃ (k : Nat) (L : List (Nat × Nat)) (Ds : List Nat) (u7 u8 u9 u19 u20 u21 u22 u23 u24 u25 u26 u27 u28 u29 u30 u31 u32 u33 u34 u35 u36 u37 u38 u39 u40 u41 u42 u43 : Value), a = { tmps := #[.pointer p, .int .i64 m, undef, undef, .pointer none, .int .i64 (n : Int), .pointer (some ⟨cg, 0, none⟩), u7, u8, u9, undef, undef, undef, .pointer p, .int .i64 (n : Int), .agg #[.slice none 0 0], .pointer (some ⟨cg, 0, none⟩), .int .i64 (n : Int), .int .i64 (k : Int), u19, u20, u21, u22, u23, u24, u25, u26, u27, u28, u29, u30, u31, u32, u33, u34, u35, u36, u37, u38, u39, u40, u41, u42, u43, undef, undef, undef, undef, undef, undef, undef, undef, undef, undef, undef, undef, undef, undef, undef, undef, undef, undef, undef, undef, undef, undef, undef, undef, undef, undef, undef, undef], defers := marksOf Ds } ∧ k ≤ n ∧ Bld W w cg n k L M ∧ Marks W.heap.size w.heap.size Ds w
/-- A graph, or none. -/
def GP (W : World) (p : Option Addr) (n : Nat) (J : List ArcI) : Prop :=
  (p = none ∧ n = 0 ∧ J = []) ∨ ∃ g ab A c, p = some ⟨g, 0, none⟩ ∧ IsG W g n J ab A c
theorem LenP_is {W : World} {p : Option Addr} {n : Nat} {J : List ArcI} (h : GP W p n J) : Calls Tryd.prog 49 #[.pointer p] W fun e w' => e = .returned (.int .i64 n) ∧ W = w' := by
  rcases h with ⟨rfl, rfl, _⟩ | ⟨g, ab, A, c, rfl, h⟩
  · exact LenG_nil W
  · exact LenG_is h
theorem GP.room {W : World} {p : Option Addr} {n : Nat} {J : List ArcI} (h : GP W p n J) : n ≤ 1024 := by
  rcases h with ⟨_, rfl, _⟩ | ⟨_, _, _, _, _, h⟩
  · omega
  · exact h.room
theorem outK.fr {k g n ab c v : Nat} {J : List ArcI} {A : Option Addr} {m : Int} {W W' : World} {S : Nat → Prop} (h : outK k g n J ab A c v m W) (f : Fr S W W') (h0 : ¬ S k) (h1 : ¬ S (k + 1)) (h2 : ¬ S (k + 2))
    (hS : ∀ k cs t fz, S k → W.heap[k]? = some (.cells cs t fz) → t ≠ 109 ∧ t ≠ 3 ∧ t ≠ 81) : outK k g n J ab A c v m W' :=
  ⟨h.1.fr f h0, h.2.1.fr f h1, h.2.2.1.fr f h2, h.2.2.2.fr f hS⟩
theorem bits_type {W : World} {g a n : Nat} {p : Nat → Bool} (h : IsBits W g a n p) : ∀ k cs t fz, k = a → W.heap[k]? = some (.cells cs t fz) → t ≠ 109 ∧ t ≠ 3 ∧ t ≠ 81 := by
  rintro k cs t fz rfl hk
  obtain ⟨ws, _, _, h3, _⟩ := h.words
  rw [h3] at hk
  have e := Option.some.inj hk
  injection e with _ e _
  subst e
  decide
theorem Bld.fr0 {W wr w' : World} {cg n k : Nat} {L : List (Nat × Nat)} {M : Nat → Nat → Bool} (h : Bld W wr cg n k L M) (f : Fr0 wr w') : Bld W w' cg n k L M :=
  ⟨h.tab.fr f (fun x => x), h.fr.trans0 f, h.len, by obtain ⟨v, h1, h2⟩ := h.rows; exact ⟨v, f.heap' h1, own_fr0 h2 f⟩, fun i hi => (h.bits i hi).fr0 f, h.own, h.apart⟩
theorem info_pb : (Tryd.prog.info? 34).map (fun i => (i.zero, i.size, i.bytes)) = some (some (.pointer none), 1, 8) := by kernel_rfl
theorem Tab.lt {W : World} (h : Tab W) : 0 < W.heap.size := by
  have h0 := h 0 (by decide)
  unfold World.cell? at h0
  cases hh : W.heap[0]? with
  | none => simp only [hh] at h0; cases h0
  | some o => exact heap_lt hh
theorem IsBits.frT {S : Nat → Prop} {W W' : World} {g a n : Nat} {p : Nat → Bool} (h : IsBits W g a n p) (f : Fr S W W') (h0 : ¬ S 0)
    (hS : ∀ k cs t fz, S k → W.heap[k]? = some (.cells cs t fz) → t ≠ 90 ∧ t ≠ 103) : IsBits W' g a n p := by
  obtain ⟨ws, _, h2, h3, _⟩ := h.words
  exact h.fr f h0 (fun hs => (hS _ _ _ _ hs h2).1 rfl) (fun hs => (hS _ _ _ _ hs h3).2 rfl)
/-- One turn of the closing: what row b holds goes into each row that holds b. -/
def stepM (M : Nat → Nat → Bool) (b : Nat) : Nat → Nat → Bool := fun i x => M i x || (M i b && M b x)
def midM (M : Nat → Nat → Bool) (b j : Nat) : Nat → Nat → Bool := fun i => if i < j then stepM M b i else M i
def warsh (M : Nat → Nat → Bool) : Nat → Nat → Nat → Bool
  | 0 => M
  | b + 1 => stepM (warsh M b) b
theorem stepM_self (M : Nat → Nat → Bool) (b : Nat) : stepM M b b = M b := by
  funext x; simp only [stepM]; cases M b x <;> simp
theorem midM_self (M : Nat → Nat → Bool) (b j : Nat) : midM M b j b = M b := by
  unfold midM; split
  · exact stepM_self M b
  · rfl
theorem Bld.at_ {W wr : World} {cg n k c : Nat} {L : List (Nat × Nat)} {M : Nat → Nat → Bool} {A : Option Addr} (h : Bld W wr cg n k L M) (hc : wr.cell? ⟨cg, 0, none⟩ = some (.slice A k c)) :
    ∀ i, i < k → ∃ b, A = some ⟨b, 0, none⟩ ∧ wr.cell? ⟨b, i, none⟩ = some (.pointer (some ⟨(L.getD i default).1, 0, none⟩)) := by
  obtain ⟨v, h1, h2⟩ := h.rows
  have h0 : wr.cell? ⟨cg, 0, none⟩ = some v := by simp [World.cell?, h1]
  rw [h0] at hc
  have e := Option.some.inj hc
  subst e
  intro i hi
  rcases h2.2 with ⟨_, e⟩ | ⟨g, cap, cur, e, _⟩
  · omega
  · cases e
    refine ⟨g, rfl, ?_⟩
    rw [h2.cellAt i (by omega)]
    have hl := h.len
    simp [ptrs, List.getD_eq_getElem?_getD, List.getElem?_eq_getElem (show i < L.length by omega)]
theorem Bld.setRow {W wr w' : World} {cg n k i : Nat} {L : List (Nat × Nat)} {M M2 : Nat → Nat → Bool} {p : Nat → Bool} (h : Bld W wr cg n k L M) (hT : Tab W) (hi : i < k) (f : Fr (fun b => b = (L.getD i default).2) wr w')
    (hb : IsBits w' (L.getD i default).1 (L.getD i default).2 n p) (h1 : M2 i = p) (h2 : ∀ j, j < k → j ≠ i → M2 j = M j) : Bld W w' cg n k L M2 ∧ cg ≠ (L.getD i default).2 := by
  have hF : Fr0 W w' := h.fr.trans f (fun j hj e => by have := h.own i hi; omega)
  obtain ⟨v, k1, k2⟩ := h.rows
  obtain ⟨ws, _, w2, w3, _⟩ := (h.bits i hi).words
  have hcg : cg ≠ (L.getD i default).2 := by
    intro e; rw [e, w3] at k1; injection k1 with k1; injection k1 with _ k1 _; exact absurd k1 (by decide)
  refine ⟨⟨hT.fr hF (fun x => x), hF, h.len, ⟨v, f.heap k1 hcg, own_fr k2 f (fun b hb e => own_ne k2 w3 (by decide) (e ▸ hb))⟩, fun j hj => ?_, h.own, h.apart⟩, hcg⟩
  by_cases e : j = i
  · subst e; rw [h1]; exact hb
  · rw [h2 j hj e]
    refine (h.bits j hj).fr f (fun e => ?_) (fun e => ?_) (fun e' => ?_)
    · have := Tab.lt hT; have := h.own i hi; omega
    · obtain ⟨_, _, u2, _⟩ := (h.bits j hj).words
      rw [e, w3] at u2; injection u2 with u2; injection u2 with _ u2 _; exact absurd u2 (by decide)
    · rcases Nat.lt_or_gt_of_ne e with e2 | e2
      · exact h.apart j i e2 hi e'
      · exact h.apart i j e2 hj e'.symm
theorem Bld.congr {W wr : World} {cg n k : Nat} {L : List (Nat × Nat)} {M M2 : Nat → Nat → Bool} (h : Bld W wr cg n k L M) (e : ∀ i, i < k → M2 i = M i) : Bld W wr cg n k L M2 :=
  ⟨h.tab, h.fr, h.len, h.rows, fun i hi => by rw [e i hi]; exact h.bits i hi, h.own, h.apart⟩
theorem mid_false {M : Nat → Nat → Bool} {b j : Nat} (h : M j b = false) : midM M b (j + 1) = midM M b j := by
  funext i
  by_cases e : i = j
  · subst e
    simp only [midM, Nat.lt_succ_self, if_true, Nat.lt_irrefl, if_false]
    funext x
    simp [stepM, h]
  · simp only [midM]
    by_cases e2 : i < j
    · rw [if_pos (by omega), if_pos e2]
    · rw [if_neg (by omega), if_neg e2]
theorem mid_ne {M : Nat → Nat → Bool} {b i j : Nat} (h : i ≠ j) : midM M b (j + 1) i = midM M b j i := by
  simp only [midM]
  by_cases e2 : i < j
  · rw [if_pos (by omega), if_pos e2]
  · rw [if_neg (by omega), if_neg e2]
theorem mid_at (M : Nat → Nat → Bool) (b j : Nat) : midM M b (j + 1) j = stepM M b j := by simp [midM]
def CloPost (W : World) (n : Nat) (M : Nat → Nat → Bool) (v : Value) (w' : World) : Prop :=
  ∃ cg L, v = .pointer (some ⟨cg, 0, none⟩) ∧ Fr0 W w' ∧ IsClo w' cg n L M
set_option maxHeartbeats 4000000 in
theorem CloNew_is {W : World} {p : Option Addr} {n : Nat} {J : List ArcI} (hg : GP W p n J) (m : Int) (hT : Tab W) :
    Calls Tryd.prog 16 #[.pointer p, .int .i64 m] W (Rets (CloPost W n (warsh (fun i => rowM n J m i) n))) := by
  have HL := Lib.hid (LenP_is hg)
  have hn := hg.room
  have HG := Lib.hid hg
  have HT := Lib.hid hT
  clear hg hT
  refine (callsIn_wide (n := 0)).1 (callsIn_of_wp_marks Tryd.func16 rfl trivial ?_)
  simp only [Tryd.ntmps16, List.size_toArray, List.length_cons, List.length_nil, Nat.reduceAdd, Nat.reduceSub, Array.replicate_succ, Array.replicate_zero, List.push_toArray, List.append_toArray, List.nil_append, List.cons_append]
  gi_wp2_with (gi_at_call 49; refine (callsIn_wide.2 HL.out).mono ?_; rintro e w' ⟨rfl, rfl⟩)
  have hB0 : Bld W (W.alloc (.cells #[.slice none 0 0] 74)) W.heap.size n 0 [] (fun i => rowM n J m i) :=
    ⟨HT.out.fr (fr_alloc (fun _ => False) _ _) (fun x => x), fr_alloc _ _ _, rfl, ⟨_, World.alloc_heap_new _ _, own_nil _ _ _ _⟩, fun i hi => by omega, fun i hi => by omega, fun i j _ hj => by omega⟩
  refine wpIn_loop (CloI W p m n W.heap.size (fun i => rowM n J m i)) (fun a _ => n - (intOf (a.tmps.getD 18 undef)).toNat) ?_ ?_
  · exact ⟨0, [], [], _, _, _, _, _, _, _, _, _, _, _, _, _, _, _, _, _, _, _, _, _, _, _, _, _, _, _, _, rfl, by omega, hB0, Marks.nil _ _ _⟩
  clear hB0
  rintro a wr ⟨k, L, Ds, u7, u8, u9, u19, u20, u21, u22, u23, u24, u25, u26, u27, u28, u29, u30, u31, u32, u33, u34, u35, u36, u37, u38, u39, u40, u41, u42, u43, rfl, hk, hB, hM⟩
  dsimp only
  generalize hcg : W.heap.size = cg at hB
  have hcell : ∃ A c, wr.cell? ⟨cg, 0, none⟩ = some (.slice A k c) := by
    obtain ⟨v, h1, h2⟩ := hB.rows
    obtain ⟨A, c, rfl⟩ := own_form h2
    exact ⟨A, c, by simp [World.cell?, h1]⟩
  obtain ⟨A0, c0, hcc⟩ := hcell
  by_cases hlt : k < n
  · obtain ⟨g, ab, A, c, rfl, hgr⟩ : ∃ g ab A c, p = some ⟨g, 0, none⟩ ∧ IsG W g n J ab A c := by
      rcases HG.out with ⟨_, h, _⟩ | h
      · omega
      · exact h
    have hgr2 := hgr.fr0 hB.fr
    have hlt' : (k : Int) < (n : Int) := by omega
    have HN := Lib.hid (New_is (n : Int) wr hB.tab)
    gi_wp2_with (gi_at_call 50; refine (callsIn_wide.2 HN.out).mono ?_; rintro e w1 ⟨_, rfl, g1, a1, rfl, k1, k2, k3, k4⟩; rw [show (max 0 (min (n : Int) 65536)).toNat = n by omega] at k4)
    gi_wp2_with (gi_at_call 51; refine (callsIn_wide.2 (Out_is _ _ _ _)).mono ?_; rintro e w' ⟨rfl, rfl⟩)
    obtain ⟨w2, hw2⟩ : ∃ w2, (((w1.alloc (.cells #[.pointer (some ⟨g1, 0, none⟩)] 34)).alloc (.cells #[.pointer (some ⟨g, 0, none⟩)] 32)).alloc (.cells #[.int .i64 (k : Int)] 3)).alloc (.cells #[.int .i64 m] 3) = w2 := ⟨_, rfl⟩
    have hbr : Box w2 w1.heap.size 34 (.pointer (some ⟨g1, 0, none⟩)) := hw2 ▸ (Box.new w1 _ _).fr0 (((fr_alloc _ _ _).alloc _).alloc _)
    have hb1 : Box w2 (w1.heap.size + 1) 32 (.pointer (some ⟨g, 0, none⟩)) := by
      have := Box.new (w1.alloc (.cells #[.pointer (some ⟨g1, 0, none⟩)] 34)) 32 (.pointer (some ⟨g, 0, none⟩))
      rw [World.size_alloc] at this
      exact hw2 ▸ this.fr0 ((fr_alloc _ _ _).alloc _)
    have hb2 : Box w2 (w1.heap.size + 2) 3 (.int .i64 (k : Int)) := by
      have := Box.new ((w1.alloc (.cells #[.pointer (some ⟨g1, 0, none⟩)] 34)).alloc (.cells #[.pointer (some ⟨g, 0, none⟩)] 32)) 3 (.int .i64 (k : Int))
      rw [World.size_alloc, World.size_alloc] at this
      exact hw2 ▸ this.fr0 (fr_alloc _ _ _)
    have hb3 : Box w2 (w1.heap.size + 3) 3 (.int .i64 m) := by
      have := Box.new (((w1.alloc (.cells #[.pointer (some ⟨g1, 0, none⟩)] 34)).alloc (.cells #[.pointer (some ⟨g, 0, none⟩)] 32)).alloc (.cells #[.int .i64 (k : Int)] 3)) 3 (.int .i64 m)
      rw [World.size_alloc, World.size_alloc, World.size_alloc] at this
      exact hw2 ▸ this
    have hf2 : Fr0 w1 w2 := hw2 ▸ (((fr_alloc _ _ _).alloc _).alloc _).alloc _
    have hsz2 : w2.heap.size = w1.heap.size + 4 := by rw [← hw2]; simp
    have hfr2 : Fr0 wr w2 := k3.trans0 hf2
    have ha1 := k4.lta
    have hg1 := k4.ltg
    have hs1 := k3.size
    have HB := Lib.hid hB
    rw [hw2]
    refine range_law (gf := 72) (lb := #[.pointer (some ⟨w1.heap.size + 1, 0, none⟩), .pointer (some ⟨w1.heap.size + 2, 0, none⟩), .pointer (some ⟨w1.heap.size + 3, 0, none⟩)]) rfl (enters_of Tryd.func72 (by kernel_rfl) rfl)
      (Out1_is (w1.heap.size + 1) g n J ab A c k m hlt) (fun _ => rfl)
      (fun pre W' => Fr0 wr W' ∧ outK (w1.heap.size + 1) g n J ab A c k m W' ∧ Box W' w1.heap.size 34 (.pointer (some ⟨g1, 0, none⟩)) ∧ IsBits W' g1 a1 n (putP n (fun _ => false) (pre.map (·.t))))
      (fun _ _ _ => False) (fun pre W hI => hI.2.1) ?stab (fun _ _ _ _ hf _ => hf) ⟨hfr2, ⟨hb1, hb2, hb3, hgr2.fr0 hfr2⟩, hbr, (k4.fr0 hf2).ext (fun k => by simp [putP])⟩ ?round ?done ?stop
    case stab => exact fun pre W W' h hG => ⟨Fr.andGrow h.1 hG (by omega), outK.grow _ _ h.2.1 hG, h.2.2.1.grow hG, h.2.2.2.grow hG⟩
    case stop => intro D c pre W hD _ hf; exact hf.elim
    case round =>
      intro l pre x Wx hl hI hpre
      gi_wp2
      refine ⟨ND.refl _ _, fun W2 hG => ?_⟩
      obtain ⟨q1, q2, q3, q4⟩ := hI
      replace q1 := Fr.andGrow q1 hG (by omega)
      replace q2 := outK.grow _ _ q2 hG
      replace q3 := q3.grow hG
      replace q4 := q4.grow hG
      have q3c := q3.cell
      gi_wp2_with (gi_at_call 52; refine (CallsIn.inRound l (callsIn_wide.2 (Put_is (q4.fr0 (fr_alloc _ _ _)) (ints_new _ _ _)))).mono ?_; rintro e w' ⟨rfl, c4, c5⟩)
      have c6 : Fr (fun k => k = a1) W2 w' := (fr_alloc (fun k => k = a1) W2 (.cells #[.int .i64 x.t] 3)).trans c4 (fun _ _ x => x)
      refine ⟨c6.ND _, q1.trans c6 (fun j hj e => by omega), q2.fr c6 (by omega) (by omega) (by omega) (bits_type q4), q3.fr c6 (by omega), ?_⟩
      rw [List.map_append, List.map_cons, List.map_nil, putP_snoc]
      exact c5
    case done =>
      intro D Wd hD hI hk
      obtain ⟨q1, _, q3, q4⟩ := hI
      have hBd := HB.out.fr0 q1
      have d1 := q3.cell
      have d2 := q1.cell hcc (fun x => x)
      obtain ⟨v0, hh0, ho0⟩ := hBd.rows
      obtain ⟨A1, c1, e1⟩ := own_form ho0
      have e2 : Value.slice A1 k c1 = Value.slice A0 k c0 := by
        have h0 : Wd.cell? ⟨cg, 0, none⟩ = some v0 := by simp [World.cell?, hh0]
        rw [h0, e1] at d2
        exact Option.some.inj d2
      rw [e1, e2] at hh0 ho0
      clear e1 e2
      have hfX : Fr0 Wd (Wd.alloc (.cells #[.pointer (some ⟨g1, 0, none⟩)] 34)) := fr_alloc _ _ _
      have ho1 := own_fr0 ho0 (hfX.trans0 (fr_drew _ _))
      have hszd := hBd.fr.size
      obtain ⟨i0, hi, hz0, hz1, hz2⟩ := info_parts info_pb
      have hnew : ∀ j u, [Value.pointer (some ⟨g1, 0, none⟩)][j]? = some u → (Wd.alloc (.cells #[.pointer (some ⟨g1, 0, none⟩)] 34)).drew.cell? ((⟨Wd.heap.size, 0, none⟩ : Addr).add j) = some u := by
        intro j u hu
        have hj : j = 0 := by
          cases j with
          | zero => rfl
          | succ j => simp at hu
        subst hj
        rw [← hu]
        exact (Box.new Wd _ _).cell
      obtain ⟨v', w', hap, ho2, hgb, _⟩ := run_append_own (P := Tryd.prog) (w := (Wd.alloc (.cells #[.pointer (some ⟨g1, 0, none⟩)] 34)).drew) W.heap.size 72 72 34 i0 (.pointer none) 1 8 Tryd.underlying72 hi hz0 hz1 hz2 rfl (by decide) (.slice A0 k c0) k (ptrs L) ho1 ⟨Wd.heap.size, 0, none⟩ 1 1 [.pointer (some ⟨g1, 0, none⟩)] rfl hnew (by simp [Value.oneCell']) (by unfold maxLen; omega) (by omega) (Nat.le_trans hszd (by show Wd.heap.size ≤ (Wd.alloc _).heap.size; rw [World.size_alloc]; exact Nat.le_succ _))
      rw [appendH_eq] at hap
      have hfA : Fr (fun b => (Value.slice A0 k c0).ownBlock = some b) (Wd.alloc (.cells #[.pointer (some ⟨g1, 0, none⟩)] 34)).drew w' := append_fr0 ho1 hgb
      have hcgX : (Wd.alloc (.cells #[.pointer (some ⟨g1, 0, none⟩)] 34)).drew.heap[cg]? = some (.cells #[.slice A0 k c0] 74 (0, 0)) := Fr0.heap' (hfX.trans0 (fr_drew _ _)) hh0
      have hcgW : w'.heap[cg]? = some (.cells #[.slice A0 k c0] 74 (0, 0)) := hfA.heap hcgX (fun e => own_ne ho1 hcgX (by decide) e)
      have d3 : (Wd.alloc (.cells #[.pointer (some ⟨g1, 0, none⟩)] 34)).cell? ⟨cg, 0, none⟩ = some (.slice A0 k c0) := hfX.cell d2 (fun x => x)
      have d4 : w'.cell? ⟨cg, 0, none⟩ = some (.slice A0 k c0) := by simp [World.cell?, hcgW]
      have d5 : w'.frozen? ⟨cg, 0, none⟩ = false := by simp [World.frozen?, hcgW]
      obtain ⟨A2, c2, rfl⟩ := own_form ho2
      gi_wp2_with fail
      gi_region
      have hS1 : Fr (fun b => b = cg ∨ (Value.slice A0 k c0).ownBlock = some b) Wd (w'.setCell ⟨cg, 0, none⟩ (.slice A2 (k + 1) c2)) :=
        Fr.trans (T := fun b => b = cg ∨ (Value.slice A0 k c0).ownBlock = some b) ((hfX.trans0 (fr_drew _ _)).mono (fun _ _ x => x.elim))
          (Fr.trans (T := fun b => b = cg ∨ (Value.slice A0 k c0).ownBlock = some b) (hfA.mono (fun _ _ x => .inr x)) (fr_setCell _ _ _ (fun _ => .inl rfl)) (fun _ _ x => x)) (fun _ _ x => x)
      have hno : ∀ j, j < W.heap.size → ¬ (j = cg ∨ (Value.slice A0 k c0).ownBlock = some j) := fun j hj h => h.elim (fun e => by omega) (fun e => own_old ho0 hj e)
      have hF : Fr0 W (w'.setCell ⟨cg, 0, none⟩ (.slice A2 (k + 1) c2)) := hBd.fr.trans hS1 (fun j hj h => hno j hj h)
      have hty : ∀ b cs t fz, (b = cg ∨ (Value.slice A0 k c0).ownBlock = some b) → Wd.heap[b]? = some (.cells cs t fz) → t ≠ 90 ∧ t ≠ 103 := by
        rintro b cs t fz (rfl | e) hb
        · rw [hh0] at hb; injection hb with hb; injection hb with _ hb _; subst hb; decide
        · obtain ⟨_, _, cs', hb'⟩ := own_blk ho0 e
          rw [hb'] at hb; injection hb with hb; injection hb with _ hb _; subst hb; decide
      have hTab : ¬ (0 = cg ∨ (Value.slice A0 k c0).ownBlock = some 0) := hno _ (Tab.lt HT.out)
      have hlenL := hBd.len
      have hget : ∀ i, i < k → (L ++ [(g1, a1)]).getD i default = L.getD i default := fun i hi => by
        rw [List.getD_eq_getElem?_getD, List.getElem?_append_left (by omega), List.getD_eq_getElem?_getD]
      have hgetk : (L ++ [(g1, a1)]).getD k default = (g1, a1) := by
        rw [List.getD_eq_getElem?_getD, List.getElem?_append_right (by omega), hlenL, Nat.sub_self]; rfl
      have hwW := hB.fr.size
      gi_wp2_with fail
      refine ⟨⟨k + 1, L ++ [(g1, a1)], D :: Ds, _, _, _, _, _, _, _, _, _, _, _, _, _, _, _, _, _, _, _, _, _, _, _, _, _, _, _, _, rfl, by omega, ⟨Tab.fr HT.out hF (fun x => x), hF, by simp [hlenL], ⟨.slice A2 (k + 1) c2, by rw [heap_setCell_same hcgW]; rfl, ?_⟩, fun i hi => ?_, fun i hi => ?_, fun i j hij hj => ?_⟩, ?_⟩, by simp [intOf]; omega⟩
      · have h := own_fr (S := fun b => b = cg) ho2 (fr_setCell w' ⟨cg, 0, none⟩ (.slice A2 (k + 1) c2) (fun _ => rfl)) (fun b hb e => own_ne ho2 hcgW (by decide) (e ▸ hb))
        simpa [ptrs] using h
      · by_cases e : i = k
        · subst e; rw [hgetk]; exact q4.frT hS1 hTab hty
        · rw [hget i (by omega)]; exact (hBd.bits i (by omega)).frT hS1 hTab hty
      · by_cases e : i = k
        · subst e; rw [hgetk]; show W.heap.size ≤ a1; omega
        · rw [hget i (by omega)]; exact hBd.own i (by omega)
      · rw [hget i (by omega)]
        by_cases e : j = k
        · subst e; rw [hgetk]
          have h1 := (hB.bits i hij).lta
          show (L.getD i default).2 ≠ a1
          omega
        · rw [hget j (by omega)]; exact hBd.apart i j hij (by omega)
      · have hm := ((hM.fr q1).cons (D := D) (by omega) (by omega) hk).fr hS1
        exact hm.mono (Nat.lt_of_lt_of_le (heap_lt hk) hS1.size)
  · have hke : k = n := by omega
    subst hke
    have HM := Lib.hid hM
    have HB := Lib.hid hB
    have HCG := Lib.hid hcg
    obtain ⟨hi0, hhi⟩ : ∃ x, wr.heap.size = x := ⟨_, rfl⟩
    rw [hhi] at HM
    clear hB hM hcg HL HG hhi
    gi_wp2_with fail
    gi_loopw [45] (fun v45 wx => ∃ (b : Nat), b ≤ k ∧ v45 = .int .i64 b ∧ Hid (Bld W wx cg k k L (warsh (fun i => rowM k J m i) b)) ∧ wx.cell? ⟨cg, 0, none⟩ = some (.slice A0 k c0) ∧ Hid (Marks W.heap.size hi0 Ds wx)) (fun v45 _ => k - (intOf v45).toNat)
    case atStart => exact ⟨0, by omega, rfl, HB, hcc, HM⟩
    case round =>
      clear hcc HM HB
      obtain ⟨b, hb, rfl, HB, hcc, HM⟩ := hrel
      by_cases hbk : b < k
      · have hbk' : (b : Int) < (k : Int) := by omega
        gi_wp2_with fail
        gi_loopw [53] (fun v53 wx => ∃ (j : Nat), j ≤ k ∧ v53 = .int .i64 j ∧ Hid (Bld W wx cg k k L (midM (warsh (fun i => rowM k J m i) b) b j)) ∧ wx.cell? ⟨cg, 0, none⟩ = some (.slice A0 k c0) ∧ Hid (Marks W.heap.size hi0 Ds wx)) (fun v53 _ => k - (intOf v53).toNat)
        case atStart => exact ⟨0, by omega, rfl, Lib.hid (by have := HB.out; have e : midM (warsh (fun i => rowM k J m i) b) b 0 = warsh (fun i => rowM k J m i) b := by funext i; simp [midM]
                                                             rw [e]; exact this), hcc, HM⟩
        case round =>
          clear hcc HM HB
          obtain ⟨j, hj, rfl, HB, hcc, HM⟩ := hrel
          by_cases hjk : j < k
          · have hjk' : (j : Int) < (k : Int) := by omega
            obtain ⟨q, rfl, hq⟩ := HB.out.at_ hcc j hjk
            obtain ⟨q', eq, hq'⟩ := HB.out.at_ hcc b hbk
            cases eq
            have hbj := HB.out.bits j hjk
            have hbb := HB.out.bits b hbk
            have em : midM (warsh (fun i => rowM k J m i) b) b j j = warsh (fun i => rowM k J m i) b j := by simp [midM]
            rw [em] at hbj
            rw [midM_self] at hbb
            have hne : (L.getD b default).2 ≠ (L.getD j default).2 ∨ (L.getD b default).1 = (L.getD j default).1 := by
              by_cases e : j = b
              · subst e; exact .inr rfl
              · rcases Nat.lt_or_gt_of_ne e with e | e
                · exact .inl (fun h => HB.out.apart j b e hbk h.symm)
                · exact .inl (HB.out.apart b j e hjk)
            have HH := Lib.hid (Has_is hbj b)
            have HO := Lib.hid (Or_is hbj hbb hne)
            have hset := fun w' p f hb' M2 h1 h2 => HB.out.setRow (w' := w') (p := p) (M2 := M2) HT.out hjk f hb' h1 h2
            have hP := Lib.hid (show ∀ x, (warsh (fun i => rowM k J m i) b) b x = true → x < k from fun x hx => hbb.lt x hx)
            have HSET := Lib.hid hset
            generalize hgj : (L.getD j default).1 = gj at hq HH HO
            generalize hgb : (L.getD b default).1 = gb at hq' HO
            generalize haj : (L.getD j default).2 = aj at HO
            cases hm : warsh (fun i => rowM k J m i) b j b with
            | false =>
              have e0 : (decide (0 ≤ (b : Int)) && warsh (fun i => rowM k J m i) b j (b : Int).toNat) = false := by simp [hm]
              rw [e0] at HH
              clear hset hbj hbb hne em e0 hgj hgb haj
              gi_wp2_with (gi_at_call 43; refine (callsIn_wide.2 HH.out).mono ?_; rintro e w' ⟨rfl, rfl⟩)
              go_roundw
              case rel => exact ⟨j + 1, by omega, by go_num, Lib.hid (by rw [mid_false hm]; exact HB.out), hcc, HM⟩
              case measure => simp [intOf]; omega
            | true =>
              have e0 : (decide (0 ≤ (b : Int)) && warsh (fun i => rowM k J m i) b j (b : Int).toNat) = true := by simp [hm]
              rw [e0] at HH
              clear hset hbj hbb hne em e0 hgb
              gi_wp2_with (first | (gi_at_call 43; refine (callsIn_wide.2 HH.out).mono ?_; rintro e w' ⟨rfl, rfl⟩) | (gi_at_call 53; refine (callsIn_wide.2 HO.out).mono ?_; rintro e w' ⟨_, rfl, rfl, c4, c5⟩))
              have hst : IsBits w' gj aj k (stepM (warsh (fun i => rowM k J m i) b) b j) := c5.ext (fun x => by
                simp only [stepM, hm, Bool.true_and]
                cases hx : warsh (fun i => rowM k J m i) b b x with
                | false => simp
                | true => simp [hP.out x hx])
              subst haj
              subst hgj
              obtain ⟨r1, r2⟩ := HSET.out w' _ c4 hst (midM (warsh (fun i => rowM k J m i) b) b (j + 1)) (mid_at _ _ _) (fun i _ hne => mid_ne hne)
              go_roundw
              case rel => exact ⟨j + 1, by omega, by go_num, Lib.hid r1, c4.cell hcc r2, Lib.hid (HM.out.fr c4)⟩
              case measure => simp [intOf]; omega
          · have hje : j = k := by omega
            gi_wp2_with fail
            go_roundw
            case rel => exact ⟨b + 1, by omega, by go_num, Lib.hid (HB.out.congr (fun i hi => by rw [hje]; simp [warsh, midM, hi])), hcc, HM⟩
            case measure => simp [intOf]; omega
      · have hbe : b = k := by omega
        gi_wp2_with fail
        have hB := HB.out
        refine leave1N rfl HM.out ?_
        intro W' hG
        refine ⟨_, rfl, cg, L, rfl, Fr.andGrow hB.fr hG (Nat.le_refl _), ⟨fun i hi => hG.cell (hB.tab i hi), hn, hB.len, ?_, fun i hi => ?_⟩⟩
        · obtain ⟨v, h1, h2⟩ := hB.rows
          exact ⟨v, _, hG.heap h1, own_grow h2 hG⟩
        · have := (hB.bits i hi).grow hG
          rw [hbe] at this
          exact this
end Go.Proofs.YtdihpobegoihkaaDoor
