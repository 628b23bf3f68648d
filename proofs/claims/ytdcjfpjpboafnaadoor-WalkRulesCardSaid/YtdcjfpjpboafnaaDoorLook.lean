/- The search of distances: looking at the spots from which one arc leads to a spot. -/
import Derived.Test.YtdcjfpjpboafnaaDoorFinPut
namespace Go.Proofs.YtdcjfpjpboafnaaDoor
set_option linter.all false
open Go.RowKit Go.Shelf
attribute [local go_sem] Oper.semAt_some
set_option maxRecDepth 100000

section
variable {P : Program} {fn : Func} {R : Ending → World → Prop} {tmps : Array Value} {W W' : World} {lo hi hi' : Nat} {Ds : List Nat} {t : Nat}
theorem leavesN0 (hr : fn.results = #[]) : ∀ (Ds : List Nat) (W : World), Marks lo hi Ds W → (∀ W', Grow lo W W' → R (.returned (.tuple #[])) W') →
    LeavesInM Fence.wide 0 P fn tmps R (marksOf Ds) .returning W := by
  intro Ds
  induction Ds with
  | nil => intro W _ h; exact ⟨_, results_none hr _ _ _, h _ (Grow.refl _ _)⟩
  | cons D Ds ih =>
    intro W hm h
    obtain ⟨h1, h2, hk⟩ := hm.each D (List.mem_cons_self ..)
    refine ⟨by simp, .inl ⟨_, _, rfl, run_takeDeferred hk, ih _ ⟨(List.nodup_cons.1 hm.nodup).2, fun E hE => ?_⟩ (fun W' hg => h _ (((shut_mark hk).mono h1).trans hg))⟩⟩
    obtain ⟨k1, k2, k3⟩ := hm.each E (List.mem_cons_of_mem _ hE)
    have hne : E ≠ D := fun e => (List.nodup_cons.1 hm.nodup).1 (e ▸ hE)
    exact ⟨k1, k2, (World.putObj_heap_other hne).trans k3⟩
theorem leave0N (hr : fn.results = #[]) (hm : Marks lo hi Ds W) (h : ∀ W', Grow lo W W' → R (.returned (.tuple #[])) W') :
    bodyPostM Fence.wide 0 P fn R .ret { tmps, defers := marksOf Ds } W := leavesN0 hr Ds W hm h
theorem leave0Nn (hr : fn.results = #[]) (hm : Marks lo hi Ds W) (h : ∀ W', Grow lo W W' → R (.returned (.tuple #[])) W') :
    bodyPostM Fence.wide 0 P fn R .normal { tmps, defers := marksOf Ds } W := leavesN0 hr Ds W hm h
end
/-- Spots put, one behind the other. -/
def putS (pw : Nat → Bool) (d : Bool) (m : Nat) (s : (Nat → Bool → Option Nat) × List (Nat × Bool)) (v : Int) : (Nat → Bool → Option Nat) × List (Nat × Bool) :=
  (if freshF pw s.1 v d then putF s.1 v.toNat d m else s.1, if freshF pw s.1 v d then s.2 ++ [(v.toNat, d)] else s.2)
def putsS (pw : Nat → Bool) (d : Bool) (m : Nat) (s : (Nat → Bool → Option Nat) × List (Nat × Bool)) (xs : List Int) : (Nat → Bool → Option Nat) × List (Nat × Bool) := xs.foldl (putS pw d m) s
theorem putsS_snoc (pw : Nat → Bool) (d : Bool) (m : Nat) (s : (Nat → Bool → Option Nat) × List (Nat × Bool)) (xs : List Int) (x : Int) : putsS pw d m s (xs ++ [x]) = putS pw d m (putsS pw d m s xs) x := by simp [putsS]
/-- While neighbours are gone through. -/
def LookI (W0 W : World) (q : Nat) (r : Option Addr) (wg wa n : Nat) (pw : Nat → Bool) (a b c : Int) (mb u : Nat) (d : Bool) (m kk g : Nat) (J : List ArcI) (ab : Nat) (A : Option Addr) (cc : Nat) (msk : Int) (hi : Nat) (Ds : List Nat) (dd : Bool)
    (s0 : (Nat → Bool → Option Nat) × List (Nat × Bool)) (pre : List Int) (W' : World) : Prop :=
  ∃ s, putsS pw dd m s0 pre = s ∧ FinI W' W0.heap.size q r wg wa n pw a b c mb s.1 s.2 ∧ Fr0 W0 W' ∧ Fr (FinO q mb W) W W' ∧ (∀ k, FinO q mb W' k → FinO q mb W k ∨ W.heap.size ≤ k) ∧ (∀ k, (W.heap.size ≤ k ∧ k < W.heap.size + 3) ∨ (kk ≤ k ∧ k < kk + 4) → ¬ FinO q mb W' k) ∧
    Box W' W.heap.size 58 (.pointer (some ⟨q, 0, none⟩)) ∧ W'.heap[W.heap.size + 1]? = some (.cells #[.int .i64 u, .bool d] 63 (0, 0)) ∧ Box W' (W.heap.size + 2) 3 (.int .i64 (m : Int)) ∧
    nextK kk g n J ab A cc u msk wg wa n pw W' ∧ Marks W.heap.size hi Ds W' ∧ kk + 4 ≤ W'.heap.size
def FLookPost (W : World) (B q : Nat) (r : Option Addr) (wg wa n : Nat) (pw : Nat → Bool) (a b c : Int) (mb : Nat) (s : (Nat → Bool → Option Nat) × List (Nat × Bool)) (v : Value) (w' : World) : Prop :=
  v = .tuple #[] ∧ FinI w' B q r wg wa n pw a b c mb s.1 s.2 ∧ Fr (FinO q mb W) W w' ∧ ∀ k, FinO q mb w' k → FinO q mb W k ∨ W.heap.size ≤ k
theorem nextL_wf {n : Nat} {J : List ArcI} {v : Nat} {m : Int} {pw : Nat → Bool} {x : Int} (hpw : ∀ u, pw u = true → u < n) (hn : n ≤ 100000) (h : x ∈ nextL J v m pw) : (Lit.int .i64 x).wf = true := by
  rw [nextL, List.mem_map] at h
  obtain ⟨a, ha, rfl⟩ := h
  have := (List.mem_filter.1 ha).2
  simp only [inW, Bool.and_eq_true, decide_eq_true_eq] at this
  have h2 := hpw _ this.2
  simp [Lit.wf, IntKind.min, IntKind.max, IntKind.signed, IntKind.bits]
  omega
section
variable {W0 W W1 W2 : World} {q wg wa n mb u m kk g ab cc hi C : Nat} {r : Option Addr} {pw : Nat → Bool} {a b c msk : Int} {d dd : Bool} {J : List ArcI} {A : Option Addr} {Ds : List Nat} {s0 : (Nat → Bool → Option Nat) × List (Nat × Bool)} {pre : List Int}
theorem LookI.grow (h : LookI W0 W q r wg wa n pw a b c mb u d m kk g J ab A cc msk hi Ds dd s0 pre W1) (f : Grow C W1 W2) (hC : W.heap.size ≤ C) (h0 : W0.heap.size ≤ C) (hh : hi ≤ C) :
    LookI W0 W q r wg wa n pw a b c mb u d m kk g J ab A cc msk hi Ds dd s0 pre W2 := by
  obtain ⟨s, h1, h2, h3, h4, h5, h6, h7, h8, h9, ⟨k1, k2, k3, k4, k5, k6⟩, h10, h11⟩ := h
  exact ⟨s, h1, h2.grow f, Fr.andGrow h3 f h0, Fr.andGrow h4 f hC, fun k hk => h5 k (h2.O_grow f hk), fun k a hk => h6 k a (h2.O_grow f hk), h7.grow f, f.heap h8, h9.grow f, ⟨k1.grow f, k2.grow f, k3.grow f, k4.grow f, k5.grow f, k6.grow f⟩, h10.grow f hh, Nat.le_trans h11 f.size⟩
theorem LookI.put {x : Int} {v : Value} (h : LookI W0 W q r wg wa n pw a b c mb u d m kk g J ab A cc msk hi Ds dd s0 pre W1) (hkl : W.heap.size + 3 ≤ kk) (hG : IsG W0 g n J ab A cc)
    (hp : FPutPost W1 W0.heap.size q r wg wa n pw a b c mb (putS pw dd m (putsS pw dd m s0 pre) x).1 (putS pw dd m (putsS pw dd m s0 pre) x).2 v W2) :
    LookI W0 W q r wg wa n pw a b c mb u d m kk g J ab A cc msk hi Ds dd s0 (pre ++ [x]) W2 ∧ KeepO (FinO q mb) W1 W2 := by
  obtain ⟨s, h1, h2, h3, h4, h5, h6, h7, h8, h9, ⟨k1, k2, k3, k4, k5, k6⟩, h10, h11⟩ := h
  obtain ⟨_, p1, p2, p3⟩ := hp
  have hF : Fr0 W0 W2 := Fr.trans h3 p2 (fun j hj => h2.low hj)
  have hsz1 := h4.size
  have no1 : ∀ {j : Nat}, (W.heap.size ≤ j ∧ j < W.heap.size + 3) ∨ (kk ≤ j ∧ j < kk + 4) → ¬ FinO q mb W2 j := fun {j} a hj => by
    rcases p3 j hj with e | e
    · exact h6 j a e
    · omega
  refine ⟨⟨_, rfl, by rw [putsS_snoc]; exact p1, hF, h4.trans p2 (fun j hj hs => ?_), fun k hk => ?_, fun k a => no1 a, h7.fr p2 (h6 _ (by omega)), p2.heap h8 (h6 _ (by omega)), h9.fr p2 (h6 _ (by omega)),
    ⟨k1.fr p2 (h6 _ (by omega)), k2.fr p2 (h6 _ (by omega)), k3.fr p2 (h6 _ (by omega)), k4.fr p2 (h6 _ (by omega)), hG.fr0 hF, p1.wbits⟩, h10.fr p2, Nat.le_trans h11 p2.size⟩, fun j o hj hd hO => ⟨(p2.same j (heap_lt hj) hO).trans hj, fun h => ?_⟩⟩
  · rcases h5 j hs with e | e
    · exact e
    · omega
  · rcases p3 k hk with e | e
    · exact h5 k e
    · exact .inr (by omega)
  · rcases p3 j h with e | e
    · exact hO e
    · have := heap_lt hj; omega
end
set_option maxHeartbeats 8000000 in
theorem Look_no {W0 W : World} {q wg wa n mb u k : Nat} {r p : Option Addr} {g : Nat} {J : List ArcI} {pw : Nat → Bool} {a b c : Int} {far : Nat → Bool → Option Nat} {l : List (Nat × Bool)} (h : FinI W W0.heap.size q r wg wa n pw a b c mb far l) (hF : Fr0 W0 W)
    (hR : IsR W0 r p (some ⟨g, 0, none⟩)) (hG : GP W0 (some ⟨g, 0, none⟩) n J) (hpw : ∀ u, pw u = true → u < n) (hn : n ≤ 1000) (hu : u < n) (hk : far u false = some k) (hks : k ≤ 100000) :
    Calls Tryd.prog 37 #[.pointer (some ⟨q, 0, none⟩), .agg #[.int .i64 (u : Int), .bool false]] W
      (Rets (FLookPost W W0.heap.size q r wg wa n pw a b c mb (putsS pw false (k + 1) (far, l) (nextL J u a pw)))) := by
  obtain ⟨ring, top, mm, hb⟩ := h.blk
  obtain ⟨w1, hw1⟩ : ∃ w1, W.alloc (.cells #[.pointer (some ⟨q, 0, none⟩)] 58) = w1 := ⟨_, rfl⟩
  have hf1 : Fr0 W w1 := hw1 ▸ fr_alloc _ _ _
  have hs1 : w1.heap.size = W.heap.size + 1 := by rw [← hw1]; simp
  have hb1 : Box w1 W.heap.size 58 (.pointer (some ⟨q, 0, none⟩)) := hw1 ▸ Box.new _ _ _
  obtain ⟨w2, hw2⟩ : ∃ w2, w1.alloc (.cells #[.int .i64 (u : Int), .bool false] 63) = w2 := ⟨_, rfl⟩
  have hf2 : Fr0 w1 w2 := hw2 ▸ fr_alloc _ _ _
  have hs2 : w2.heap.size = W.heap.size + 2 := by rw [← hw2]; simp; omega
  have hb2 : w2.heap[W.heap.size + 1]? = some (.cells #[.int .i64 (u : Int), .bool false] 63 (0, 0)) := by rw [← hs1]; exact hw2 ▸ World.alloc_heap_new _ _
  have hF2 : Fr0 W w2 := hf1.trans0 hf2
  have hb1' := hb1.fr0 hf2
  obtain ⟨wz, hwz⟩ : ∃ wz, wz = w2.alloc (.cells #[.int .i64 0] 3) := ⟨_, rfl⟩
  have hfz : Fr0 w2 wz := by rw [hwz]; exact fr_alloc _ _ _
  have hlkz := (h.map.fr0 (hF2.trans0 hfz).drew).look1 sptK Tryd.underlying80 (zero_intF _) (x := ((u : Int), false)) ⟨by simp [Lit.wf, IntKind.min, IntKind.max, IntKind.signed, IntKind.bits]; omega, trivial⟩
  have hlk := (h.map.fr0 hF2.drew).look1 sptK Tryd.underlying80 (zero_intF _) (x := ((u : Int), false)) ⟨by simp [Lit.wf, IntKind.min, IntKind.max, IntKind.signed, IntKind.bits]; omega, trivial⟩
  rw [show farM far ((u : Int), false) = some (.int .i64 (k : Int)) by unfold farM; simp [hk]] at hlk hlkz
  simp only [sptE, Option.getD_some] at hlk hlkz
  have ez := (hb1'.fr0 (hfz.drew)).cell
  have sz0 := (hfz.drew).cell (show w2.cell? ⟨W.heap.size + 1, 0, none⟩ = some (.int .i64 (u : Int)) by unfold World.cell?; rw [hb2]; rfl) (fun x => x)
  have sz1 := (hfz.drew).cell (show w2.cell? ⟨W.heap.size + 1, 1, none⟩ = some (.bool false) by unfold World.cell?; rw [hb2]; rfl) (fun x => x)
  have cz5 := (hb.fr0 (hF2.trans0 hfz).drew).c5
  rw [hwz] at hlkz ez sz0 sz1 cz5
  have e0 := hb1'.fr0 (fr_drew _ _) |>.cell
  have s0 : w2.drew.cell? ⟨W.heap.size + 1, 0, none⟩ = some (.int .i64 (u : Int)) := by unfold World.cell?; rw [show w2.drew.heap = w2.heap from rfl, hb2]; rfl
  have s1 : w2.drew.cell? ⟨W.heap.size + 1, 1, none⟩ = some (.bool false) := by unfold World.cell?; rw [show w2.drew.heap = w2.heap from rfl, hb2]; rfl
  have c5 := (hb.fr0 hF2.drew).c5
  have hwr : IntKind.i64.wrap ((k : Int) + 1) = (k : Int) + 1 := by rw [IntKind.wrap_i64]; omega
  have H := Lib.hid h
  have HB := Lib.hid hb
  have HG := Lib.hid hG
  have HR := Lib.hid hR
  have HB1 := Lib.hid hb1'
  have HB2 := Lib.hid hb2
  have hszF := hF.size
  clear h hb hG hR hb1 hb1' hb2 hk hfz hwz
  refine (callsIn_wide (n := 0)).1 (callsIn_of_wp_marks Tryd.func37 rfl trivial ?_)
  simp only [Tryd.ntmps37, List.size_toArray, List.length_cons, List.length_nil, Nat.reduceAdd, Nat.reduceSub, Array.replicate_succ, Array.replicate_zero, List.push_toArray, List.append_toArray, List.nil_append, List.cons_append]
  gi_wp2_with fail
  gi_region
  all_goals
    obtain ⟨w3, hw3⟩ : ∃ w3, w3 = (w2.alloc (.cells #[.int .i64 ((k : Int) + 1)] 3)).drew := ⟨_, rfl⟩
    rw [← hw3]
    have hf3 : Fr0 w2 w3 := by rw [hw3]; exact (fr_alloc _ _ _).drew
    have hs3 : w3.heap.size = W.heap.size + 3 := by rw [hw3]; show (w2.alloc _).heap.size = _; simp; omega
    have hb3 : Box w3 (W.heap.size + 2) 3 (.int .i64 (((k + 1 : Nat)) : Int)) := by
      rw [← hs2, hw3]
      exact (Box.new w2 3 (.int .i64 (((k + 1 : Nat)) : Int))).fr0 (fr_drew _ _)
    clear hw3 e0 s0 s1 c5 ez sz0 sz1 cz5 hlk hlkz hwr hw1 hw2
    obtain ⟨rg, ab, A, cc, erg, hgr⟩ : ∃ rg ab A cc, (some ⟨g, 0, none⟩ : Option Addr) = some ⟨rg, 0, none⟩ ∧ IsG W0 rg n J ab A cc := by
      rcases HG.out with ⟨e, _⟩ | h
      · cases e
      · exact h
    cases erg
    have hF3 := hF2.trans0 hf3
    have hi1 := HB1.out.fr0 hf3
    have hi2 := hf3.heap HB2.out (fun x => x)
    have hFi := H.out.fr0 hF3
    have hT3 : Fr0 W0 w3 := hF.trans0 hF3
    have hO3 : Fr (FinO q mb W) W w3 := hF3.mono (fun _ _ x => x.elim)
    have hM3 : ∀ k, FinO q mb w3 k → FinO q mb W k ∨ W.heap.size ≤ k := fun k hk => .inl (H.out.O_grow (Fr0.grow hF3 0) hk)
    have hN3 : ∀ k, (W.heap.size ≤ k ∧ k < W.heap.size + 3) → ¬ FinO q mb w3 k := fun k a hk => (by have := H.out.O_lt (H.out.O_grow (Fr0.grow hF3 0) hk); omega)
    have hK3 : Marks W.heap.size w3.heap.size [] w3 := Marks.nil _ _ _
    have hkk : W.heap.size + 3 ≤ w3.heap.size := by omega
    clear hs1 hs2 hs3 hf3 hF3 HB1 HB2 hF2 hf1 hf2 HB
    clear w1 w2
    obtain ⟨ring, top, mm, hb⟩ := hFi.blk
    have e0 := (hi1.fr0 (fr_drew (fun _ => False) _)).cell
    have s0 : w3.drew.cell? ⟨W.heap.size + 1, 0, none⟩ = some (.int .i64 (u : Int)) := by unfold World.cell?; rw [(fr_drew (fun _ => False) _).heap hi2 (fun x => x)]; rfl
    have t1 : w3.cell? ⟨W.heap.size + 1, 1, none⟩ = some (.bool false) := by unfold World.cell?; rw [hi2]; rfl
    have c0 := (hb.fr0 (fr_drew (fun _ => False) _)).c0
    have c1 := (hb.fr0 (fr_drew (fun _ => False) _)).c1
    have c2 := (hb.fr0 (fr_drew (fun _ => False) _)).c2
    have HIN := Lib.hid (InN_is (HR.out.fr0 hT3.drew) (some ⟨wg, 0, none⟩) (u : Int) a)
    clear hb
    gi_wp2_with fail
    refine wpIn_wide.2 ?_
    refine wp_region_still_tail 15 (by kernel_rfl) (by kernel_rfl) ?_
    simp only [List.take_succ_cons, List.take_zero, List.drop_succ_cons, List.drop_zero]
    change wpStill _ _ (World.drew _) _ _ _
    repeat still_step
    refine wpStill_nil ?_
    change wpList _ _ _ _ _ (World.drew _)
    go_wp2_with (go_at_call 56; refine (HIN.out).mono ?_; rintro e w4 ⟨rfl, rfl⟩)
    gi_wp2_with fail
    obtain ⟨w4, hw4⟩ : ∃ w4, w4 = ((((w3.alloc (.cells #[.pointer (some ⟨g, 0, none⟩)] 66)).alloc (.cells #[.int .i64 (u : Int)] 3)).alloc (.cells #[.pointer (some ⟨wg, 0, none⟩)] 44)).alloc (.cells #[.int .i64 a] 3)).drew := ⟨_, rfl⟩
    rw [← hw4]
    obtain ⟨kk, hkk'⟩ : ∃ kk, w3.heap.size = kk := ⟨_, rfl⟩
    simp only [hkk']
    have hg4 : Fr0 w3 w4 := by rw [hw4]; exact ((((fr_alloc _ _ _).alloc _).alloc _).alloc _).drew
    have hs4 : w4.heap.size = kk + 4 := by rw [hw4]; show (World.alloc _ _).heap.size = _; simp only [World.size_alloc]; omega
    have hn0 : Box w4 kk 66 (.pointer (some ⟨g, 0, none⟩)) := by rw [hw4, ← hkk']; exact (Box.new w3 _ _).fr0 ((((fr_alloc _ _ _).alloc _).alloc _).drew)
    have hn1 : Box w4 (kk + 1) 3 (.int .i64 (u : Int)) := by
      have := Box.new (w3.alloc (.cells #[.pointer (some ⟨g, 0, none⟩)] 66)) 3 (.int .i64 (u : Int))
      rw [World.size_alloc] at this
      rw [hw4, ← hkk']; exact this.fr0 (((fr_alloc _ _ _).alloc _).drew)
    have hn2 : Box w4 (kk + 2) 44 (.pointer (some ⟨wg, 0, none⟩)) := by
      have := Box.new ((w3.alloc (.cells #[.pointer (some ⟨g, 0, none⟩)] 66)).alloc (.cells #[.int .i64 (u : Int)] 3)) 44 (.pointer (some ⟨wg, 0, none⟩))
      rw [World.size_alloc, World.size_alloc] at this
      rw [hw4, ← hkk']; exact this.fr0 ((fr_alloc _ _ _).drew)
    have hn3 : Box w4 (kk + 3) 3 (.int .i64 a) := by
      have := Box.new (((w3.alloc (.cells #[.pointer (some ⟨g, 0, none⟩)] 66)).alloc (.cells #[.int .i64 (u : Int)] 3)).alloc (.cells #[.pointer (some ⟨wg, 0, none⟩)] 44)) 3 (.int .i64 a)
      rw [World.size_alloc, World.size_alloc, World.size_alloc] at this
      rw [hw4, ← hkk']; exact this.fr0 (fr_drew _ _)
    clear hw4
    have hI0 : LookI W0 W q r wg wa n pw a b c mb u false (k + 1) kk g J ab A cc a kk [] false (far, l) [] w4 :=
      ⟨_, rfl, hFi.fr0 hg4, hT3.trans0 hg4, hO3.trans0 hg4, fun k hk => hM3 k (hFi.O_grow (Fr0.grow hg4 0) hk), fun k a hk => (by
          have h1 := hFi.O_grow (Fr0.grow hg4 0) hk
          rcases a with a | a
          · exact hN3 k a h1
          · have := hFi.O_lt h1; omega),
        hi1.fr0 hg4, hg4.heap hi2 (fun x => x), hb3.fr0 hg4, ⟨hn0, hn1, hn2, hn3, hgr.fr0 (hT3.trans0 hg4), hFi.wbits.fr0 hg4⟩, (hkk' ▸ hK3).fr hg4, (by omega)⟩
    have HI0 := Lib.hid hI0
    rw [hkk'] at hkk
    clear hn0 hn1 hn2 hn3 hI0 e0 s0 t1 c0 c1 c2 hb3 hi1 hi2 hFi hT3 hO3 hM3 hN3 hK3 hg4 hkk' HIN
    clear w3
    refine range_lawF (gf := 81) (lb := #[.pointer (some ⟨kk, 0, none⟩), .pointer (some ⟨kk + 1, 0, none⟩), .pointer (some ⟨kk + 3, 0, none⟩), .pointer (some ⟨kk + 2, 0, none⟩)]) rfl (enters_of Tryd.func81 (by kernel_rfl) rfl)
      (Next1_is kk g n J ab A cc u a wg wa n pw hu) (fun _ => rfl)
      (LookI W0 W q r wg wa n pw a b c mb u false (k + 1) kk g J ab A cc a kk [] false (far, l))
      (fun _ _ _ => False) (FinO q mb) (fun pre W' h => by obtain ⟨_, _, _, _, _, _, _, _, _, _, h, _⟩ := h; exact h) (fun pre W1 W2 h hG => h.grow hG (by omega) (by omega) (by omega)) (fun _ _ _ _ hf _ => hf) HI0.out ?low ?olow ?round ?done ?stop
    case stop => intro D c pre W hD _ hf; exact hf.elim
    case low =>
      intro j W' _ hG hj
      obtain ⟨_, _, h, _⟩ := HI0.out
      exact h.O_lt (h.O_grow hG hj)
    case olow =>
      rintro pre W1 W2 j ⟨_, _, h, _⟩ hG hj
      exact h.O_grow hG hj
    case round =>
      intro y pre x Wx hy hI hpre
      gi_wp2
      refine ⟨trivial, fun W2 hG => ?_⟩
      replace hI := hI.grow hG (by omega) (by omega) (by omega)
      clear hG
      have HI := Lib.hid hI
      obtain ⟨s, rfl, q2, q3, q4, q5, q6, q7, q8, q9, q10, q11, q12⟩ := hI
      have q7c := q7.cell
      have q9c := q9.cell
      have HP := Lib.hid (FPut_is q2 hpw hn (v := x) (nextL_wf hpw (by omega) (hpre.subset (by simp))) false (k + 1))
      clear q2 q3 q4 q5 q6 q8 q10 q11
      gi_wp2_with (gi_at_call 35; refine (CallsIn.inRound y (callsIn_wide.2 HP.out)).mono ?_; rintro e w' ⟨_, rfl, hz⟩)
      obtain ⟨z1, z2⟩ := HI.out.put (by omega) hgr hz
      exact ⟨⟨hz.2.2.1.ND _, z1⟩, z2⟩
    case done =>
      intro D Wd hD hI hk2
      gi_wp2_with fail
      refine leave0 rfl hk2 fun W' hG => ?_
      replace hI := hI.grow hG (by omega) (by omega) (by omega)
      obtain ⟨s, rfl, q2, q3, q4, q5, q6⟩ := hI
      exact ⟨_, rfl, rfl, q2, q4, q5⟩
set_option maxHeartbeats 8000000 in
theorem Look_yes {W0 W : World} {q wg wa n mb u k : Nat} {r p : Option Addr} {g : Nat} {J : List ArcI} {pw : Nat → Bool} {a b c : Int} {far : Nat → Bool → Option Nat} {l : List (Nat × Bool)} (h : FinI W W0.heap.size q r wg wa n pw a b c mb far l) (hF : Fr0 W0 W)
    (hR : IsR W0 r p (some ⟨g, 0, none⟩)) (hG : GP W0 (some ⟨g, 0, none⟩) n J) (hpw : ∀ u, pw u = true → u < n) (hn : n ≤ 1000) (hu : u < n) (hk : far u true = some k) (hks : k ≤ 100000) :
    Calls Tryd.prog 37 #[.pointer (some ⟨q, 0, none⟩), .agg #[.int .i64 (u : Int), .bool true]] W
      (Rets (FLookPost W W0.heap.size q r wg wa n pw a b c mb (putsS pw false (k + 1) (putsS pw true (k + 1) (far, l) (nextL J u c pw)) (nextL J u b pw)))) := by
  obtain ⟨ring, top, mm, hb⟩ := h.blk
  obtain ⟨w1, hw1⟩ : ∃ w1, W.alloc (.cells #[.pointer (some ⟨q, 0, none⟩)] 58) = w1 := ⟨_, rfl⟩
  have hf1 : Fr0 W w1 := hw1 ▸ fr_alloc _ _ _
  have hs1 : w1.heap.size = W.heap.size + 1 := by rw [← hw1]; simp
  have hb1 : Box w1 W.heap.size 58 (.pointer (some ⟨q, 0, none⟩)) := hw1 ▸ Box.new _ _ _
  obtain ⟨w2, hw2⟩ : ∃ w2, w1.alloc (.cells #[.int .i64 (u : Int), .bool true] 63) = w2 := ⟨_, rfl⟩
  have hf2 : Fr0 w1 w2 := hw2 ▸ fr_alloc _ _ _
  have hs2 : w2.heap.size = W.heap.size + 2 := by rw [← hw2]; simp; omega
  have hb2 : w2.heap[W.heap.size + 1]? = some (.cells #[.int .i64 (u : Int), .bool true] 63 (0, 0)) := by rw [← hs1]; exact hw2 ▸ World.alloc_heap_new _ _
  have hF2 : Fr0 W w2 := hf1.trans0 hf2
  have hb1' := hb1.fr0 hf2
  obtain ⟨wz, hwz⟩ : ∃ wz, wz = w2.alloc (.cells #[.int .i64 0] 3) := ⟨_, rfl⟩
  have hfz : Fr0 w2 wz := by rw [hwz]; exact fr_alloc _ _ _
  have hlkz := (h.map.fr0 (hF2.trans0 hfz).drew).look1 sptK Tryd.underlying80 (zero_intF _) (x := ((u : Int), true)) ⟨by simp [Lit.wf, IntKind.min, IntKind.max, IntKind.signed, IntKind.bits]; omega, trivial⟩
  have hlk := (h.map.fr0 hF2.drew).look1 sptK Tryd.underlying80 (zero_intF _) (x := ((u : Int), true)) ⟨by simp [Lit.wf, IntKind.min, IntKind.max, IntKind.signed, IntKind.bits]; omega, trivial⟩
  rw [show farM far ((u : Int), true) = some (.int .i64 (k : Int)) by unfold farM; simp [hk]] at hlk hlkz
  simp only [sptE, Option.getD_some] at hlk hlkz
  have ez := (hb1'.fr0 (hfz.drew)).cell
  have sz0 := (hfz.drew).cell (show w2.cell? ⟨W.heap.size + 1, 0, none⟩ = some (.int .i64 (u : Int)) by unfold World.cell?; rw [hb2]; rfl) (fun x => x)
  have sz1 := (hfz.drew).cell (show w2.cell? ⟨W.heap.size + 1, 1, none⟩ = some (.bool true) by unfold World.cell?; rw [hb2]; rfl) (fun x => x)
  have cz5 := (hb.fr0 (hF2.trans0 hfz).drew).c5
  rw [hwz] at hlkz ez sz0 sz1 cz5
  have e0 := hb1'.fr0 (fr_drew _ _) |>.cell
  have s0 : w2.drew.cell? ⟨W.heap.size + 1, 0, none⟩ = some (.int .i64 (u : Int)) := by unfold World.cell?; rw [show w2.drew.heap = w2.heap from rfl, hb2]; rfl
  have s1 : w2.drew.cell? ⟨W.heap.size + 1, 1, none⟩ = some (.bool true) := by unfold World.cell?; rw [show w2.drew.heap = w2.heap from rfl, hb2]; rfl
  have c5 := (hb.fr0 hF2.drew).c5
  have hwr : IntKind.i64.wrap ((k : Int) + 1) = (k : Int) + 1 := by rw [IntKind.wrap_i64]; omega
  have H := Lib.hid h
  have HB := Lib.hid hb
  have HG := Lib.hid hG
  have HR := Lib.hid hR
  have HB1 := Lib.hid hb1'
  have HB2 := Lib.hid hb2
  have hszF := hF.size
  clear h hb hG hR hb1 hb1' hb2 hk hfz hwz
  refine (callsIn_wide (n := 0)).1 (callsIn_of_wp_marks Tryd.func37 rfl trivial ?_)
  simp only [Tryd.ntmps37, List.size_toArray, List.length_cons, List.length_nil, Nat.reduceAdd, Nat.reduceSub, Array.replicate_succ, Array.replicate_zero, List.push_toArray, List.append_toArray, List.nil_append, List.cons_append]
  gi_wp2_with fail
  gi_region
  all_goals
    obtain ⟨w3, hw3⟩ : ∃ w3, w3 = (w2.alloc (.cells #[.int .i64 ((k : Int) + 1)] 3)).drew := ⟨_, rfl⟩
    rw [← hw3]
    have hf3 : Fr0 w2 w3 := by rw [hw3]; exact (fr_alloc _ _ _).drew
    have hs3 : w3.heap.size = W.heap.size + 3 := by rw [hw3]; show (w2.alloc _).heap.size = _; simp; omega
    have hb3 : Box w3 (W.heap.size + 2) 3 (.int .i64 (((k + 1 : Nat)) : Int)) := by
      rw [← hs2, hw3]
      exact (Box.new w2 3 (.int .i64 (((k + 1 : Nat)) : Int))).fr0 (fr_drew _ _)
    clear hw3 e0 s0 s1 c5 ez sz0 sz1 cz5 hlk hlkz hwr hw1 hw2
    obtain ⟨rg, ab, A, cc, erg, hgr⟩ : ∃ rg ab A cc, (some ⟨g, 0, none⟩ : Option Addr) = some ⟨rg, 0, none⟩ ∧ IsG W0 rg n J ab A cc := by
      rcases HG.out with ⟨e, _⟩ | h
      · cases e
      · exact h
    cases erg
    have hF3 := hF2.trans0 hf3
    have hi1 := HB1.out.fr0 hf3
    have hi2 := hf3.heap HB2.out (fun x => x)
    have hFi := H.out.fr0 hF3
    have hT3 : Fr0 W0 w3 := hF.trans0 hF3
    have hO3 : Fr (FinO q mb W) W w3 := hF3.mono (fun _ _ x => x.elim)
    have hM3 : ∀ k, FinO q mb w3 k → FinO q mb W k ∨ W.heap.size ≤ k := fun k hk => .inl (H.out.O_grow (Fr0.grow hF3 0) hk)
    have hN3 : ∀ k, (W.heap.size ≤ k ∧ k < W.heap.size + 3) → ¬ FinO q mb w3 k := fun k a hk => (by have := H.out.O_lt (H.out.O_grow (Fr0.grow hF3 0) hk); omega)
    have hK3 : Marks W.heap.size w3.heap.size [] w3 := Marks.nil _ _ _
    have hkk : W.heap.size + 3 ≤ w3.heap.size := by omega
    clear hs1 hs2 hs3 hf3 hF3 HB1 HB2 hF2 hf1 hf2 HB
    clear w1 w2
    obtain ⟨ring, top, mm, hb⟩ := hFi.blk
    have e0 := (hi1.fr0 (fr_drew (fun _ => False) _)).cell
    have s0 : w3.drew.cell? ⟨W.heap.size + 1, 0, none⟩ = some (.int .i64 (u : Int)) := by unfold World.cell?; rw [(fr_drew (fun _ => False) _).heap hi2 (fun x => x)]; rfl
    have t1 : w3.cell? ⟨W.heap.size + 1, 1, none⟩ = some (.bool true) := by unfold World.cell?; rw [hi2]; rfl
    have c0 := (hb.fr0 (fr_drew (fun _ => False) _)).c0
    have c1 := (hb.fr0 (fr_drew (fun _ => False) _)).c1
    have c2 := (hb.fr0 (fr_drew (fun _ => False) _)).c4
    have HIN := Lib.hid (InN_is (HR.out.fr0 hT3.drew) (some ⟨wg, 0, none⟩) (u : Int) c)
    clear hb
    gi_wp2_with fail
    refine wpIn_wide.2 ?_
    refine wp_region_still_tail 15 (by kernel_rfl) (by kernel_rfl) ?_
    simp only [List.take_succ_cons, List.take_zero, List.drop_succ_cons, List.drop_zero]
    change wpStill _ _ (World.drew _) _ _ _
    repeat still_step
    refine wpStill_nil ?_
    change wpList _ _ _ _ _ (World.drew _)
    go_wp2_with (go_at_call 56; refine (HIN.out).mono ?_; rintro e w4 ⟨rfl, rfl⟩)
    gi_wp2_with fail
    obtain ⟨w4, hw4⟩ : ∃ w4, w4 = ((((w3.alloc (.cells #[.pointer (some ⟨g, 0, none⟩)] 66)).alloc (.cells #[.int .i64 (u : Int)] 3)).alloc (.cells #[.pointer (some ⟨wg, 0, none⟩)] 44)).alloc (.cells #[.int .i64 c] 3)).drew := ⟨_, rfl⟩
    rw [← hw4]
    obtain ⟨kk, hkk'⟩ : ∃ kk, w3.heap.size = kk := ⟨_, rfl⟩
    simp only [hkk']
    have hg4 : Fr0 w3 w4 := by rw [hw4]; exact ((((fr_alloc _ _ _).alloc _).alloc _).alloc _).drew
    have hs4 : w4.heap.size = kk + 4 := by rw [hw4]; show (World.alloc _ _).heap.size = _; simp only [World.size_alloc]; omega
    have hn0 : Box w4 kk 66 (.pointer (some ⟨g, 0, none⟩)) := by rw [hw4, ← hkk']; exact (Box.new w3 _ _).fr0 ((((fr_alloc _ _ _).alloc _).alloc _).drew)
    have hn1 : Box w4 (kk + 1) 3 (.int .i64 (u : Int)) := by
      have := Box.new (w3.alloc (.cells #[.pointer (some ⟨g, 0, none⟩)] 66)) 3 (.int .i64 (u : Int))
      rw [World.size_alloc] at this
      rw [hw4, ← hkk']; exact this.fr0 (((fr_alloc _ _ _).alloc _).drew)
    have hn2 : Box w4 (kk + 2) 44 (.pointer (some ⟨wg, 0, none⟩)) := by
      have := Box.new ((w3.alloc (.cells #[.pointer (some ⟨g, 0, none⟩)] 66)).alloc (.cells #[.int .i64 (u : Int)] 3)) 44 (.pointer (some ⟨wg, 0, none⟩))
      rw [World.size_alloc, World.size_alloc] at this
      rw [hw4, ← hkk']; exact this.fr0 ((fr_alloc _ _ _).drew)
    have hn3 : Box w4 (kk + 3) 3 (.int .i64 c) := by
      have := Box.new (((w3.alloc (.cells #[.pointer (some ⟨g, 0, none⟩)] 66)).alloc (.cells #[.int .i64 (u : Int)] 3)).alloc (.cells #[.pointer (some ⟨wg, 0, none⟩)] 44)) 3 (.int .i64 c)
      rw [World.size_alloc, World.size_alloc, World.size_alloc] at this
      rw [hw4, ← hkk']; exact this.fr0 (fr_drew _ _)
    clear hw4
    have hI0 : LookI W0 W q r wg wa n pw a b c mb u true (k + 1) kk g J ab A cc c kk [] true (far, l) [] w4 :=
      ⟨_, rfl, hFi.fr0 hg4, hT3.trans0 hg4, hO3.trans0 hg4, fun k hk => hM3 k (hFi.O_grow (Fr0.grow hg4 0) hk), fun k a hk => (by
          have h1 := hFi.O_grow (Fr0.grow hg4 0) hk
          rcases a with a | a
          · exact hN3 k a h1
          · have := hFi.O_lt h1; omega),
        hi1.fr0 hg4, hg4.heap hi2 (fun x => x), hb3.fr0 hg4, ⟨hn0, hn1, hn2, hn3, hgr.fr0 (hT3.trans0 hg4), hFi.wbits.fr0 hg4⟩, (hkk' ▸ hK3).fr hg4, (by omega)⟩
    have HI0 := Lib.hid hI0
    rw [hkk'] at hkk
    clear hn0 hn1 hn2 hn3 hI0 e0 s0 t1 c0 c1 c2 hb3 hi1 hi2 hFi hT3 hO3 hM3 hN3 hK3 hg4 hkk' HIN
    clear w3
    refine range_lawF (gf := 81) (lb := #[.pointer (some ⟨kk, 0, none⟩), .pointer (some ⟨kk + 1, 0, none⟩), .pointer (some ⟨kk + 3, 0, none⟩), .pointer (some ⟨kk + 2, 0, none⟩)]) rfl (enters_of Tryd.func81 (by kernel_rfl) rfl)
      (Next1_is kk g n J ab A cc u c wg wa n pw hu) (fun _ => rfl)
      (LookI W0 W q r wg wa n pw a b c mb u true (k + 1) kk g J ab A cc c kk [] true (far, l))
      (fun _ _ _ => False) (FinO q mb) (fun pre W' h => by obtain ⟨_, _, _, _, _, _, _, _, _, _, h, _⟩ := h; exact h) (fun pre W1 W2 h hG => h.grow hG (by omega) (by omega) (by omega)) (fun _ _ _ _ hf _ => hf) HI0.out ?low ?olow ?round ?done ?stop
    case stop => intro D c pre W hD _ hf; exact hf.elim
    case low =>
      intro j W' _ hG hj
      obtain ⟨_, _, h, _⟩ := HI0.out
      exact h.O_lt (h.O_grow hG hj)
    case olow =>
      rintro pre W1 W2 j ⟨_, _, h, _⟩ hG hj
      exact h.O_grow hG hj
    case round =>
      intro y pre x Wx hy hI hpre
      gi_wp2
      refine ⟨trivial, fun W2 hG => ?_⟩
      replace hI := hI.grow hG (by omega) (by omega) (by omega)
      clear hG
      have HI := Lib.hid hI
      obtain ⟨s, rfl, q2, q3, q4, q5, q6, q7, q8, q9, q10, q11, q12⟩ := hI
      have q7c := q7.cell
      have q9c := q9.cell
      have HP := Lib.hid (FPut_is q2 hpw hn (v := x) (nextL_wf hpw (by omega) (hpre.subset (by simp))) true (k + 1))
      clear q2 q3 q4 q5 q6 q8 q10 q11
      gi_wp2_with (gi_at_call 35; refine (CallsIn.inRound y (callsIn_wide.2 HP.out)).mono ?_; rintro e w' ⟨_, rfl, hz⟩)
      obtain ⟨z1, z2⟩ := HI.out.put (by omega) hgr hz
      exact ⟨⟨hz.2.2.1.ND _, z1⟩, z2⟩
    case done =>
      intro D w3 hD hI hk2
      obtain ⟨s, hs, hFi, hT3, hO3, hM3, hN3', hi1, hi2, hb3, _, hK3', hkk3⟩ := hI
      rw [← hs] at hFi
      clear hs s HI0
      have hDw := heap_lt hk2
      have hN3 : ∀ k, (W.heap.size ≤ k ∧ k < W.heap.size + 3) → ¬ FinO q mb w3 k := fun k a => hN3' k (.inl a)
      have hK3 : Marks W.heap.size w3.heap.size [D] w3 := (hK3'.cons (by omega) (by omega) hk2).mono (by omega)
      replace hkk : W.heap.size + 3 ≤ w3.heap.size := by omega
      have hD' := hD
      clear hN3' hK3' hk2 hkk3
      obtain ⟨ring, top, mm, hb⟩ := hFi.blk
      have e0 := (hi1.fr0 (fr_drew (fun _ => False) _)).cell
      have s0 : w3.drew.cell? ⟨W.heap.size + 1, 0, none⟩ = some (.int .i64 (u : Int)) := by unfold World.cell?; rw [(fr_drew (fun _ => False) _).heap hi2 (fun x => x)]; rfl
      have t1 : w3.cell? ⟨W.heap.size + 1, 1, none⟩ = some (.bool true) := by unfold World.cell?; rw [hi2]; rfl
      have c0 := (hb.fr0 (fr_drew (fun _ => False) _)).c0
      have c1 := (hb.fr0 (fr_drew (fun _ => False) _)).c1
      have c2 := (hb.fr0 (fr_drew (fun _ => False) _)).c3
      have HIN := Lib.hid (InN_is (HR.out.fr0 hT3.drew) (some ⟨wg, 0, none⟩) (u : Int) b)
      clear hb
      gi_wp2_with fail
      refine wpIn_wide.2 ?_
      refine wp_region_still_tail 15 (by kernel_rfl) (by kernel_rfl) ?_
      simp only [List.take_succ_cons, List.take_zero, List.drop_succ_cons, List.drop_zero]
      change wpStill _ _ (World.drew _) _ _ _
      repeat still_step
      refine wpStill_nil ?_
      change wpList _ _ _ _ _ (World.drew _)
      go_wp2_with (go_at_call 56; refine (HIN.out).mono ?_; rintro e w4 ⟨rfl, rfl⟩)
      gi_wp2_with fail
      obtain ⟨w4, hw4⟩ : ∃ w4, w4 = ((((w3.alloc (.cells #[.pointer (some ⟨g, 0, none⟩)] 66)).alloc (.cells #[.int .i64 (u : Int)] 3)).alloc (.cells #[.pointer (some ⟨wg, 0, none⟩)] 44)).alloc (.cells #[.int .i64 b] 3)).drew := ⟨_, rfl⟩
      rw [← hw4]
      obtain ⟨kk, hkk'⟩ : ∃ kk, w3.heap.size = kk := ⟨_, rfl⟩
      simp only [hkk']
      have hg4 : Fr0 w3 w4 := by rw [hw4]; exact ((((fr_alloc _ _ _).alloc _).alloc _).alloc _).drew
      have hs4 : w4.heap.size = kk + 4 := by rw [hw4]; show (World.alloc _ _).heap.size = _; simp only [World.size_alloc]; omega
      have hn0 : Box w4 kk 66 (.pointer (some ⟨g, 0, none⟩)) := by rw [hw4, ← hkk']; exact (Box.new w3 _ _).fr0 ((((fr_alloc _ _ _).alloc _).alloc _).drew)
      have hn1 : Box w4 (kk + 1) 3 (.int .i64 (u : Int)) := by
        have := Box.new (w3.alloc (.cells #[.pointer (some ⟨g, 0, none⟩)] 66)) 3 (.int .i64 (u : Int))
        rw [World.size_alloc] at this
        rw [hw4, ← hkk']; exact this.fr0 (((fr_alloc _ _ _).alloc _).drew)
      have hn2 : Box w4 (kk + 2) 44 (.pointer (some ⟨wg, 0, none⟩)) := by
        have := Box.new ((w3.alloc (.cells #[.pointer (some ⟨g, 0, none⟩)] 66)).alloc (.cells #[.int .i64 (u : Int)] 3)) 44 (.pointer (some ⟨wg, 0, none⟩))
        rw [World.size_alloc, World.size_alloc] at this
        rw [hw4, ← hkk']; exact this.fr0 ((fr_alloc _ _ _).drew)
      have hn3 : Box w4 (kk + 3) 3 (.int .i64 b) := by
        have := Box.new (((w3.alloc (.cells #[.pointer (some ⟨g, 0, none⟩)] 66)).alloc (.cells #[.int .i64 (u : Int)] 3)).alloc (.cells #[.pointer (some ⟨wg, 0, none⟩)] 44)) 3 (.int .i64 b)
        rw [World.size_alloc, World.size_alloc, World.size_alloc] at this
        rw [hw4, ← hkk']; exact this.fr0 (fr_drew _ _)
      clear hw4
      have hI0 : LookI W0 W q r wg wa n pw a b c mb u true (k + 1) kk g J ab A cc b kk [D] false (putsS pw true (k + 1) (far, l) (nextL J u c pw)) [] w4 :=
        ⟨_, rfl, hFi.fr0 hg4, hT3.trans0 hg4, hO3.trans0 hg4, fun k hk => hM3 k (hFi.O_grow (Fr0.grow hg4 0) hk), fun k a hk => (by
            have h1 := hFi.O_grow (Fr0.grow hg4 0) hk
            rcases a with a | a
            · exact hN3 k a h1
            · have := hFi.O_lt h1; omega),
          hi1.fr0 hg4, hg4.heap hi2 (fun x => x), hb3.fr0 hg4, ⟨hn0, hn1, hn2, hn3, hgr.fr0 (hT3.trans0 hg4), hFi.wbits.fr0 hg4⟩, (hkk' ▸ hK3).fr hg4, (by omega)⟩
      have HI0 := Lib.hid hI0
      rw [hkk'] at hkk
      clear hn0 hn1 hn2 hn3 hI0 e0 s0 t1 c0 c1 c2 hb3 hi1 hi2 hFi hT3 hO3 hM3 hN3 hK3 hg4 hkk' HIN
      refine range_lawF (gf := 81) (lb := #[.pointer (some ⟨kk, 0, none⟩), .pointer (some ⟨kk + 1, 0, none⟩), .pointer (some ⟨kk + 3, 0, none⟩), .pointer (some ⟨kk + 2, 0, none⟩)]) rfl (enters_of Tryd.func81 (by kernel_rfl) rfl)
        (Next1_is kk g n J ab A cc u b wg wa n pw hu) (fun _ => rfl)
        (LookI W0 W q r wg wa n pw a b c mb u true (k + 1) kk g J ab A cc b kk [D] false (putsS pw true (k + 1) (far, l) (nextL J u c pw)))
        (fun _ _ _ => False) (FinO q mb) (fun pre W' h => by obtain ⟨_, _, _, _, _, _, _, _, _, _, h, _⟩ := h; exact h) (fun pre W1 W2 h hG => h.grow hG (by omega) (by omega) (by omega)) (fun _ _ _ _ hf _ => hf) HI0.out ?low ?olow ?round ?done ?stop
      case stop => intro D c pre W hD _ hf; exact hf.elim
      case low =>
        intro j W' _ hG hj
        obtain ⟨_, _, h, _⟩ := HI0.out
        exact h.O_lt (h.O_grow hG hj)
      case olow =>
        rintro pre W1 W2 j ⟨_, _, h, _⟩ hG hj
        exact h.O_grow hG hj
      case round =>
        intro y pre x Wx hy hI hpre
        gi_wp2
        refine ⟨trivial, fun W2 hG => ?_⟩
        replace hI := hI.grow hG (by omega) (by omega) (by omega)
        clear hG
        have HI := Lib.hid hI
        obtain ⟨s, rfl, q2, q3, q4, q5, q6, q7, q8, q9, q10, q11, q12⟩ := hI
        have q7c := q7.cell
        have q9c := q9.cell
        have HP := Lib.hid (FPut_is q2 hpw hn (v := x) (nextL_wf hpw (by omega) (hpre.subset (by simp))) false (k + 1))
        clear q2 q3 q4 q5 q6 q8 q10 q11
        gi_wp2_with (gi_at_call 35; refine (CallsIn.inRound y (callsIn_wide.2 HP.out)).mono ?_; rintro e w' ⟨_, rfl, hz⟩)
        obtain ⟨z1, z2⟩ := HI.out.put (by omega) hgr hz
        exact ⟨⟨hz.2.2.1.ND _, z1⟩, z2⟩
      case done =>
        intro E Wd hE hI hk2
        gi_wp2_with fail
        have hEw := heap_lt hk2
        refine leave0Nn (lo := W.heap.size) (hi := E + 1) (Ds := [E, D]) rfl ((by obtain ⟨_, _, _, _, _, _, _, _, _, _, _, h, _⟩ := hI; exact h.cons (by omega) (by omega) hk2)) fun W' hG => ?_
        obtain ⟨s, rfl, q2, q3, q4, q5, q6⟩ := hI
        exact ⟨_, rfl, rfl, q2.grow hG, Fr.andGrow q4 hG (Nat.le_refl _), fun k hk => q5 k (q2.O_grow hG hk)⟩
end Go.Proofs.YtdcjfpjpboafnaaDoor
