/- A loop that ranges over functions: the marks that gather among the deferred calls, and the return behind them. -/
import Derived.Test.YtdihpobegoihkaaDoorCloB
namespace Go.Proofs.YtdihpobegoihkaaDoor
set_option linter.all false
open Go.RowKit Go.Shelf
set_option maxRecDepth 100000

def marksOf (Ds : List Nat) : List Deferred := Ds.map fun D => { target := .collected D, args := #[] }
/-- Marks at blocks from lo on, below hi, all still empty. -/
structure Marks (lo hi : Nat) (Ds : List Nat) (W : World) : Prop where
  nodup : Ds.Nodup
  each : ∀ D ∈ Ds, lo ≤ D ∧ D < hi ∧ W.heap[D]? = some (.deferred (some []))
section
variable {P : Program} {fn : Func} {R : Ending → World → Prop} {tmps : Array Value} {W W' : World} {lo hi hi' : Nat} {Ds : List Nat} {t : Nat}
theorem Marks.nil (lo hi : Nat) (W : World) : Marks lo hi [] W := ⟨List.nodup_nil, fun _ h => by cases h⟩
theorem Marks.cons (h : Marks lo hi Ds W) {D : Nat} (hD : hi ≤ D) (hl : lo ≤ D) (hk : W.heap[D]? = some (.deferred (some []))) : Marks lo (D + 1) (D :: Ds) W :=
  ⟨List.nodup_cons.2 ⟨fun hm => by have := (h.each D hm).2.1; omega, h.nodup⟩, fun E hE => by
    rcases List.mem_cons.1 hE with rfl | hE
    · exact ⟨hl, Nat.lt_succ_self _, hk⟩
    · have := h.each E hE; exact ⟨this.1, by omega, this.2.2⟩⟩
theorem Marks.mono (h : Marks lo hi Ds W) (hh : hi ≤ hi') : Marks lo hi' Ds W := ⟨h.nodup, fun D hD => ⟨(h.each D hD).1, Nat.lt_of_lt_of_le (h.each D hD).2.1 hh, (h.each D hD).2.2⟩⟩
theorem Marks.grow {B : Nat} (h : Marks lo hi Ds W) (f : Grow B W W') (hB : hi ≤ B) : Marks lo hi Ds W' :=
  ⟨h.nodup, fun D hD => ⟨(h.each D hD).1, (h.each D hD).2.1, (f.low D (by have := (h.each D hD).2.1; omega) (heap_lt (h.each D hD).2.2)).trans (h.each D hD).2.2⟩⟩
theorem Marks.fr {S : Nat → Prop} (h : Marks lo hi Ds W) (f : Fr S W W') : Marks lo hi Ds W' :=
  ⟨h.nodup, fun D hD => ⟨(h.each D hD).1, (h.each D hD).2.1, f.nd _ _ (h.each D hD).2.2 rfl⟩⟩
theorem leavesN (hr : fn.results = #[.tmp t]) : ∀ (Ds : List Nat) (W : World), Marks lo hi Ds W → (∀ W', Grow lo W W' → R (.returned (tmps.getD t undef)) W') →
    LeavesInM Fence.wide 0 P fn tmps R (marksOf Ds) .returning W := by
  intro Ds
  induction Ds with
  | nil => intro W _ h; exact ⟨_, results_tmp hr _ _ _, h _ (Grow.refl _ _)⟩
  | cons D Ds ih =>
    intro W hm h
    obtain ⟨h1, h2, hk⟩ := hm.each D (List.mem_cons_self ..)
    refine ⟨by simp, .inl ⟨_, _, rfl, run_takeDeferred hk, ih _ ⟨(List.nodup_cons.1 hm.nodup).2, fun E hE => ?_⟩ (fun W' hg => h _ (((shut_mark hk).mono h1).trans hg))⟩⟩
    obtain ⟨k1, k2, k3⟩ := hm.each E (List.mem_cons_of_mem _ hE)
    have hne : E ≠ D := fun e => (List.nodup_cons.1 hm.nodup).1 (e ▸ hE)
    exact ⟨k1, k2, (World.putObj_heap_other hne).trans k3⟩
theorem leave1N (hr : fn.results = #[.tmp t]) (hm : Marks lo hi Ds W) (h : ∀ W', Grow lo W W' → R (.returned (tmps.getD t undef)) W') :
    bodyPostM Fence.wide 0 P fn R .ret { tmps, defers := marksOf Ds } W := leavesN hr Ds W hm h
end
end Go.Proofs.YtdihpobegoihkaaDoor
