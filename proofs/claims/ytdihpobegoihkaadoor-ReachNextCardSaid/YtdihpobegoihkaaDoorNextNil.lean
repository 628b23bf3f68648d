/- Going through the neighbours of what is no vertex, or of a graph that is not there: nothing comes. -/
import Derived.Test.YtdihpobegoihkaaDoorReachA
namespace Go.Proofs.YtdihpobegoihkaaDoor
set_option linter.all false
open Go.RowKit Go.Shelf
attribute [local go_sem] Oper.semAt_some
set_option maxRecDepth 100000

theorem row_none {W : World} {p : Option Addr} {n : Nat} {J : List ArcI} (hg : GP W p n J) {v : Int} (hv : ¬ (0 ≤ v ∧ v < n)) :
    Calls Tryd.prog 73 #[.pointer p, .int .i64 v] W fun e w' => e = .returned (.slice none 0 0) ∧ W = w' := by
  have HL := Lib.hid (LenP_is hg)
  clear hg
  by_cases h0 : v < 0
  · clear hv
    go_enter Tryd.func73, Tryd.ntmps73
    go_wp2_with (go_at_call 49; refine (HL.out).mono ?_; rintro e w' ⟨rfl, rfl⟩)
    go_ret
    exact ⟨rfl, rfl⟩
  · have hn : (n : Int) ≤ v := by omega
    have hn2 : ¬ (v < (n : Int)) := by omega
    clear hv
    go_enter Tryd.func73, Tryd.ntmps73
    go_wp2_with (go_at_call 49; refine (HL.out).mono ?_; rintro e w' ⟨rfl, rfl⟩)
    go_ret
    exact ⟨rfl, rfl⟩
def outKN (k : Nat) (p : Option Addr) (n : Nat) (J : List ArcI) (v m : Int) (W : World) : Prop :=
  Box W k 32 (.pointer p) ∧ Box W (k + 1) 3 (.int .i64 v) ∧ Box W (k + 2) 3 (.int .i64 m) ∧ GP W p n J
theorem Out1_none (k : Nat) (p : Option Addr) (n : Nat) (J : List ArcI) (v m : Int) (hv : ¬ (0 ≤ v ∧ v < n)) :
    IterSpec Tryd.prog 72 #[.pointer (some ⟨k, 0, none⟩), .pointer (some ⟨k + 1, 0, none⟩), .pointer (some ⟨k + 2, 0, none⟩)] encO [] (outKN k p n J v m) := by
  intro l Ji Jx W hl hJK hJg hJxg h0 hY
  obtain ⟨x1, x2, x3, hg⟩ := hJK _ _ h0
  have y1 := x1.cell
  have y2 := x2.cell
  have HR := Lib.hid (row_none hg hv)
  clear x1 x2 x3 hg
  refine callsIn_of_wp Tryd.func72 rfl trivial ?_
  simp only [Tryd.ntmps72, List.size_toArray, List.length_cons, List.length_nil, Nat.reduceAdd, Nat.reduceSub, Array.replicate_succ, Array.replicate_zero, List.push_toArray, List.append_toArray, List.nil_append, List.cons_append]
  gi_wp2_with (gi_at_call 73; refine (callsIn_wide.2 HR.out).mono ?_; rintro e w1 ⟨rfl, rfl⟩)
  gi_loopw [11] (fun v11 wr => v11 = .int .i64 0 ∧ wr = W) (fun _ _ => 0)
  case atStart => exact ⟨rfl, rfl⟩
  case round =>
    obtain ⟨rfl, rfl⟩ := hrel
    gi_wp2
    go_end0
    exact ⟨⟨_, rfl⟩, ND.refl _ _, .inl h0⟩
def nextKN (k : Nat) (p : Option Addr) (n : Nat) (J : List ArcI) (v m : Int) (W : World) : Prop :=
  Box W k 32 (.pointer p) ∧ Box W (k + 1) 3 (.int .i64 v) ∧ Box W (k + 3) 3 (.int .i64 m) ∧ GP W p n J
set_option maxHeartbeats 2000000 in
theorem Next1_none (k : Nat) (p : Option Addr) (n : Nat) (J : List ArcI) (v m : Int) (hv : ¬ (0 ≤ v ∧ v < n)) :
    IterSpecF Tryd.prog 84 #[.pointer (some ⟨k, 0, none⟩), .pointer (some ⟨k + 1, 0, none⟩), .pointer (some ⟨k + 3, 0, none⟩), .pointer (some ⟨k + 2, 0, none⟩)] encI [] (nextKN k p n J v m) := by
  intro y Jf Jx W hl hK hH hJ0 hg hxg hA h0 hY
  obtain ⟨x1, x2, x4, hG0⟩ := hK _ _ _ h0
  obtain ⟨w0, hw0⟩ : ∃ w0, W.alloc (.cells #[.func (.yield y) #[] #[]] 63) = w0 := ⟨_, rfl⟩
  have hf0 : Fr0 W w0 := hw0 ▸ fr_alloc _ _ _
  have hs0 : w0.heap.size = W.heap.size + 1 := by rw [← hw0]; simp
  have hby : Box w0 W.heap.size 63 (.func (.yield y) #[] #[]) := hw0 ▸ Box.new _ _ _
  have c1 := (x1.fr0 hf0).cell
  have c2 := (x2.fr0 hf0).cell
  have c4 := (x4.fr0 hf0).cell
  refine callsIn_of_wp_marks Tryd.func84 rfl trivial ?_
  simp only [Tryd.ntmps84, List.size_toArray, List.length_cons, List.length_nil, Nat.reduceAdd, Nat.reduceSub, Array.replicate_succ, Array.replicate_zero, List.push_toArray, List.append_toArray, List.nil_append, List.cons_append]
  gi_wp2_with (gi_at_call 51; refine (callsIn_wide.2 (Out_is _ _ _ _)).mono ?_; rintro e w' ⟨rfl, rfl⟩)
  obtain ⟨w2, hw2⟩ : ∃ w2, ((w0.alloc (.cells #[.pointer p] 32)).alloc (.cells #[.int .i64 v] 3)).alloc (.cells #[.int .i64 m] 3) = w2 := ⟨_, rfl⟩
  have hf2 : Fr0 w0 w2 := hw2 ▸ ((fr_alloc _ _ _).alloc _).alloc _
  have hF2 : Fr0 W w2 := hf0.trans0 hf2
  have hsz2 : w2.heap.size = W.heap.size + 4 := by rw [← hw2]; simp; omega
  have hb1 : Box w2 (W.heap.size + 1) 32 (.pointer p) := hs0 ▸ (hw2 ▸ (Box.new w0 _ _).fr0 ((fr_alloc _ _ _).alloc _))
  have hb2 : Box w2 (W.heap.size + 1 + 1) 3 (.int .i64 v) := by
    have := Box.new (w0.alloc (.cells #[.pointer p] 32)) 3 (.int .i64 v)
    rw [World.size_alloc, hs0] at this
    exact hw2 ▸ this.fr0 (fr_alloc _ _ _)
  have hb3 : Box w2 (W.heap.size + 1 + 2) 3 (.int .i64 m) := by
    have := Box.new ((w0.alloc (.cells #[.pointer p] 32)).alloc (.cells #[.int .i64 v] 3)) 3 (.int .i64 m)
    rw [World.size_alloc, World.size_alloc, hs0] at this
    exact hw2 ▸ this
  have hby2 := hby.fr0 hf2
  obtain ⟨R, hR⟩ : ∃ R : Ref, R = fun k => if W.heap.size ≤ k ∧ k < W.heap.size + 4 then w2.heap[k]? else none := ⟨_, rfl⟩
  have hRof : ∀ k t u, W.heap.size ≤ k → k < W.heap.size + 4 → Box w2 k t u → R k = some (.cells #[u] t (0, 0)) := by
    intro k t u h1 h2 h3
    rw [hR]; simp only; rw [if_pos ⟨h1, h2⟩]; exact h3
  have hGrw : Grow W.heap.size W w2 := Fr0.grow hF2 _
  have hJ1 : Jf R [] w2 := by
    refine hA R w2 (hg _ _ _ _ h0 hGrw) hGrw (fun k o e => ?_)
    rw [hR] at e
    simp only at e
    split at e
    · rename_i hk
      refine ⟨hk.1, ?_, e⟩
      have hd : k = W.heap.size ∨ k = W.heap.size + 1 ∨ k = W.heap.size + 1 + 1 ∨ k = W.heap.size + 1 + 2 := by omega
      rcases hd with rfl | rfl | rfl | rfl
      · unfold Box at hby2; rw [hby2] at e; cases e; rfl
      · unfold Box at hb1; rw [hb1] at e; cases e; rfl
      · unfold Box at hb2; rw [hb2] at e; cases e; rfl
      · unfold Box at hb3; rw [hb3] at e; cases e; rfl
    · cases e
  have hof : ∀ pre W1, Jf R pre W1 → Box W1 W.heap.size 63 (.func (.yield y) #[] #[]) ∧ outKN (W.heap.size + 1) p n J v m W1 := fun pre W1 h => by
    have hh := hH _ _ _ h
    obtain ⟨_, _, _, hg'⟩ := hK _ _ _ h
    exact ⟨hh _ _ (hRof _ _ _ (by omega) (by omega) hby2), hh _ _ (hRof _ _ _ (by omega) (by omega) hb1), hh _ _ (hRof _ _ _ (by omega) (by omega) hb2), hh _ _ (hRof _ _ _ (by omega) (by omega) hb3), hg'⟩
  rw [hw2]
  have HOF := Lib.hid hof
  have HW0 := Lib.hid hw0
  have HW2 := Lib.hid hw2
  clear hR hRof hof hw0 hw2 hby hby2 hb1 hb2 hb3 c1 c2 c4
  refine range_law (gf := 72) (lb := #[.pointer (some ⟨W.heap.size + 1, 0, none⟩), .pointer (some ⟨W.heap.size + 1 + 1, 0, none⟩), .pointer (some ⟨W.heap.size + 1 + 2, 0, none⟩)]) rfl (enters_of Tryd.func72 (by kernel_rfl) rfl)
    (Out1_none (W.heap.size + 1) p n J v m hv) (fun _ => rfl)
    (fun pre W' => Jf R [] W' ∧ ND (y + 1) W W')
    (fun _ _ _ => False) (fun pre W1 h => (HOF.out _ _ h.1).2)
    ?stab ?stab2 ⟨hJ1, hF2.ND _⟩ ?round ?done ?stop
  case stab => exact fun pre W1 W2 h hG => ⟨hg _ _ _ _ h.1 (hG.mono (by omega)), h.2.thenGrow hG (by omega)⟩
  case stab2 => exact fun cc pre W1 W2 h hG => h
  case done =>
    intro D Wd hD hI hk2
    refine leave0n rfl hk2 fun W' hG => ⟨⟨_, rfl⟩, hI.2.thenGrow hG (by omega), .inl (hg _ _ _ _ (hJ0 _ _ _ hI.1) (hG.mono (by omega)))⟩
  case stop => intro D cc pre Wd hD hpre hf; exact hf.elim
  case round =>
    intro l pre x Wx hlx hI hpre
    have := hpre.length_le
    simp at this
end Go.Proofs.YtdihpobegoihkaaDoor
