/- The document's store: appending, aborting, committing. -/
import Derived.Test.YtekigojbkhjdbaaRef40B
namespace Go.Proofs.Ytekigojbkhjdbaa
set_option linter.all false
open Go.RowKit
set_option maxRecDepth 100000

theorem lit_own (w : World) (e k : Nat) : (w.alloc (.cells #[] e)).ownsRow w.heap.size e k (.slice (some ⟨w.heap.size, 0, none⟩) 0 0) 0 [] := World.ownsRow_made w #[] 0 (Nat.le_refl _) (by decide) (by simp)
theorem fr_lit {w w' : World} {e k : Nat} (h : (w.alloc (.cells #[] e)).ownsRow w.heap.size e k (.slice (some ⟨w.heap.size, 0, none⟩) 0 0) 0 []) (g : (w.alloc (.cells #[] e)).grownBy w' (Value.slice (some ⟨w.heap.size, 0, none⟩) 0 0).ownBlock) : Fr0 w w' :=
  (fr_alloc _ _ _).trans (append_fr0 h g) (fun j hj e => by simp [Value.ownBlock] at e; omega)
def W0 (W : World) (s : Value) (now : Int) : World := (W.alloc (.cells #[s, .int .i64 now] 58)).alloc (.cells #[.slice none 0 0, .int .i64 0] 58)
theorem W0_facts (W : World) (s : Value) (now : Int) : Fr0 W (W0 W s now) ∧ (W0 W s now).heap.size = W.heap.size + 2 ∧ Two (W0 W s now) W.heap.size 58 s (.int .i64 now) ∧ Two (W0 W s now) (W.heap.size + 1) 58 (.slice none 0 0) (.int .i64 0) := by
  refine ⟨(fr_alloc _ _ _).alloc _, by simp [W0], (Two.new W _ _ _).fr0 (fr_alloc _ _ _), ?_⟩
  have := Two.new (W.alloc (.cells #[s, .int .i64 now] 58)) 58 (.slice none 0 0) (.int .i64 0)
  rwa [World.size_alloc] at this
/-- The end of a function that hands its store back: the row stored in the box, the box in the result. -/
theorem st_end {W w3 : World} {A3 : Option Addr} {c3 : Nat} {l : List V4I} {now : Int} (hF : Fr0 W w3) (ho : w3.ownsRow (W.heap.size + 2) 109 4 (.slice A3 l.length c3) l.length (tupCells v4E l)) :
    Fr0 W (((w3.setCell ⟨W.heap.size, 0, none⟩ (.slice A3 l.length c3)).setCell ⟨W.heap.size + 1, 0, none⟩ (.slice A3 l.length c3)).setCell ⟨W.heap.size + 1, 1, none⟩ (.int .i64 now)) ∧
    StAt (((w3.setCell ⟨W.heap.size, 0, none⟩ (.slice A3 l.length c3)).setCell ⟨W.heap.size + 1, 0, none⟩ (.slice A3 l.length c3)).setCell ⟨W.heap.size + 1, 1, none⟩ (.int .i64 now)) W.heap.size A3 c3 l := by
  have f : Fr (fun k => k = W.heap.size ∨ k = W.heap.size + 1) w3 (((w3.setCell ⟨W.heap.size, 0, none⟩ (.slice A3 l.length c3)).setCell ⟨W.heap.size + 1, 0, none⟩ (.slice A3 l.length c3)).setCell ⟨W.heap.size + 1, 1, none⟩ (.int .i64 now)) :=
    ((fr_setCell w3 _ _ (fun _ => .inl rfl)).setCell _ _ (fun _ => .inr rfl)).setCell _ _ (fun _ => .inr rfl)
  refine ⟨hF.trans f (fun j hj e => by omega), own_base (own_fr ho f (fun b hb e => ?_)) (by omega)⟩
  have := (own_blk ho hb).1
  omega
set_option maxHeartbeats 4000000 in
theorem Append40_is {W : World} {A : Option Addr} {c : Nat} {l : List V4I} (h : V4At W A l) (hp : Plain A l.length c) (hsm : l.length ≤ 100000) (now id key value : Int) :
    Calls Try.prog 64 #[.agg #[.slice A l.length c, .int .i64 now], .int .i64 id, .int .i64 key, .int .i64 value] W (Rets (StPost W (l ++ [⟨id, key, value, 0⟩]) now)) := by
  obtain ⟨i0, hi, hz0, hz1, hz2⟩ := info_parts info_v4
  obtain ⟨hf1, hs1, hA1, hB1⟩ := W0_facts W (.slice A l.length c) now
  obtain ⟨w1, hw1⟩ : ∃ w1, w1 = W0 W (.slice A l.length c) now := ⟨_, rfl⟩
  rw [← hw1] at hf1 hs1 hA1 hB1
  have hlit := lit_own w1 109 4
  obtain ⟨v2, w2, hr2, ho2, hg2⟩ := run_append_v4 (xs := []) hlit (((h.fr0 hf1).fr0 (fr_alloc _ _ _))) hp (by simp; omega) (by simp) 56
  have hf2 : Fr0 w1 w2 := fr_lit hlit hg2
  rw [List.nil_append] at ho2
  have hs2 := hf2.size
  have hA2 := hA1.fr0 hf2
  have hB2 := hB1.fr0 hf2
  have c0 := hA1.c0
  have HA1 := Lib.hid hA1
  have HB1 := Lib.hid hB1
  have HL := Lib.hid hlit
  have HO2 := Lib.hid ho2
  clear h hA1 hB1 hB2 hlit ho2 hg2
  have hb2 : @Go.World.ownsRow w2 w1.heap.size 109 4 v2 l.length (tupCells v4E l) := HO2.out
  rw [hs1, hw1] at hr2
  unfold W0 at hr2
  have k1 := hA2.c0
  clear hb2 hA2
  go_enter Try.func64, Try.ntmps64
  go_wp2_with (first
    | (at_builtin; refine wpList_append_own _ rfl _ _ 56 rfl w1.heap.size 109 i0 (.agg #[.int .i64 0, .int .i64 0, .int .i64 0, .int .i64 0]) 4 32 Try.underlying56 hi hz0 hz1 hz2 rfl (by decide) _ _ _ rfl (own_fr0 HO2.out (fr_alloc _ _ _)) _ 1 1 (intsI (v4E ⟨id, key, value, 0⟩)) rfl rfl (cells_new _ (intsI (v4E ⟨id, key, value, 0⟩)) _) intsI_get (by unfold maxLen; omega) (by omega) (by simp; omega) ?_; intro v3 w3 hown' hgrow _; obtain ⟨A3, c3, rfl⟩ := own_form hown'; have hf3 : Fr0 w1 w3 := (hf2.alloc _).trans (append_fr0 (own_fr0 HO2.out (fr_alloc _ _ _)) hgrow) (fun j hj e => own_old HO2.out hj e); have hA3 := HA1.out.fr0 hf3; have hB3 := HB1.out.fr0 hf3; have a1 := hA3.c1; have f0 := hA3.fz 0; have hA4 := hA3.set0 (.slice A3 (l.length + 1) c3); have b0 := hA4.c0; have b1 := hA4.c1; have hB4 := hB3.fr (S := fun k => k = W.heap.size) (fr_setCell w3 ⟨W.heap.size, 0, none⟩ (.slice A3 (l.length + 1) c3) (fun _ => rfl)) (show ¬ W.heap.size + 1 = W.heap.size by omega); have g0 := hB4.c0; have g1 := hB4.fz 0; have g2 := (hB4.set0 (.slice A3 (l.length + 1) c3)).c1; have g3 := (hB4.set0 (.slice A3 (l.length + 1) c3)).fz 1; have g4 := ((hB4.set0 (.slice A3 (l.length + 1) c3)).set1 (.int .i64 now)).c0; have g5 := ((hB4.set0 (.slice A3 (l.length + 1) c3)).set1 (.int .i64 now)).c1; have k0 := hA3.c0)
    | (at_builtin; refine wpList_append_run rfl _ _ _ rfl rfl rfl hr2 ?_))
  have hown2 : w3.ownsRow (W.heap.size + 2) 109 4 (.slice A3 (l ++ [(⟨id, key, value, 0⟩ : V4I)]).length c3) (l ++ [(⟨id, key, value, 0⟩ : V4I)]).length (tupCells v4E (l ++ [(⟨id, key, value, 0⟩ : V4I)])) := by
    rw [tupCells_snoc, List.length_append, ← hs1]; exact hown'
  obtain ⟨e1, e2⟩ := st_end (now := now) (hf1.trans0 hf3) hown2
  rw [List.length_append] at e1 e2
  refine bodyPost_ret (v := stV A3 (l.length + 1) c3 now) ?_ rfl ?_
  · simp only [results, show Try.f64.results = #[ResultVar.cell 8 58] from rfl]
    go_simp
  · exact ⟨_, rfl, A3, c3, by rw [List.length_append]; rfl, e1, e2⟩
end Go.Proofs.Ytekigojbkhjdbaa
