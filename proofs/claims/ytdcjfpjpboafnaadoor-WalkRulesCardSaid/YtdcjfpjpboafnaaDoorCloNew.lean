/- What leads where: New. -/
import Derived.Test.YtdcjfpjpboafnaaDoorClo
import Derived.BigRegion
import Derived.BigRegionIn
namespace Go.Proofs.YtdcjfpjpboafnaaDoor
set_option linter.all false
open Go.RowKit Go.Shelf
attribute [local go_sem] Oper.semAt_some
attribute [local go_sem ↓] appendH_eq
set_option maxRecDepth 100000

/-- The row of a vertex: where its arcs of a mask lead. -/
def rowM (n : Nat) (J : List ArcI) (m : Int) (i : Nat) : Nat → Bool := putP n (fun _ => false) ((outL J i m).map (·.t))
/-- A graph, or none. -/
def GP (W : World) (p : Option Addr) (n : Nat) (J : List ArcI) : Prop :=
  (p = none ∧ n = 0 ∧ J = []) ∨ ∃ g ab A c, p = some ⟨g, 0, none⟩ ∧ IsG W g n J ab A c
theorem LenP_is {W : World} {p : Option Addr} {n : Nat} {J : List ArcI} (h : GP W p n J) : Calls Tryd.prog 38 #[.pointer p] W fun e w' => e = .returned (.int .i64 n) ∧ W = w' := by
  rcases h with ⟨rfl, rfl, _⟩ | ⟨g, ab, A, c, rfl, h⟩
  · exact LenG_nil W
  · exact LenG_is h
theorem GP.room {W : World} {p : Option Addr} {n : Nat} {J : List ArcI} (h : GP W p n J) : n ≤ 1024 := by
  rcases h with ⟨_, rfl, _⟩ | ⟨_, _, _, _, _, h⟩
  · omega
  · exact h.room
theorem outK.fr {k g n ab c v : Nat} {J : List ArcI} {A : Option Addr} {m : Int} {W W' : World} {S : Nat → Prop} (h : outK k g n J ab A c v m W) (f : Fr S W W') (h0 : ¬ S k) (h1 : ¬ S (k + 1)) (h2 : ¬ S (k + 2))
    (hS : ∀ k cs t fz, S k → W.heap[k]? = some (.cells cs t fz) → t ≠ 97 ∧ t ≠ 3 ∧ t ≠ 65) : outK k g n J ab A c v m W' :=
  ⟨h.1.fr f h0, h.2.1.fr f h1, h.2.2.1.fr f h2, h.2.2.2.fr f hS⟩
theorem bits_type {W : World} {g a n : Nat} {p : Nat → Bool} (h : IsBits W g a n p) : ∀ k cs t fz, k = a → W.heap[k]? = some (.cells cs t fz) → t ≠ 97 ∧ t ≠ 3 ∧ t ≠ 65 := by
  rintro k cs t fz rfl hk
  obtain ⟨ws, _, _, h3, _⟩ := h.words
  rw [h3] at hk
  have e := Option.some.inj hk
  injection e with _ e _
  subst e
  decide
theorem info_pb : (Tryd.prog.info? 44).map (fun i => (i.zero, i.size, i.bytes)) = some (some (.pointer none), 1, 8) := by kernel_rfl
theorem Tab.lt {W : World} (h : Tab W) : 0 < W.heap.size := by
  have h0 := h 0 (by decide)
  unfold World.cell? at h0
  cases hh : W.heap[0]? with
  | none => simp only [hh] at h0; cases h0
  | some o => exact heap_lt hh
theorem IsBits.frT {S : Nat → Prop} {W W' : World} {g a n : Nat} {p : Nat → Bool} (h : IsBits W g a n p) (f : Fr S W W') (h0 : ¬ S 0)
    (hS : ∀ k cs t fz, S k → W.heap[k]? = some (.cells cs t fz) → t ≠ 79 ∧ t ≠ 99) : IsBits W' g a n p := by
  obtain ⟨ws, _, h2, h3, _⟩ := h.words
  exact h.fr f h0 (fun hs => (hS _ _ _ _ hs h2).1 rfl) (fun hs => (hS _ _ _ _ hs h3).2 rfl)
/-- One turn of the closing: what row b holds goes into each row that holds b. -/
def stepM (M : Nat → Nat → Bool) (b : Nat) : Nat → Nat → Bool := fun i x => M i x || (M i b && M b x)
def midM (M : Nat → Nat → Bool) (b j : Nat) : Nat → Nat → Bool := fun i => if i < j then stepM M b i else M i
def warsh (M : Nat → Nat → Bool) : Nat → Nat → Nat → Bool
  | 0 => M
  | b + 1 => stepM (warsh M b) b
theorem stepM_self (M : Nat → Nat → Bool) (b : Nat) : stepM M b b = M b := by
  funext x; simp only [stepM]; cases M b x <;> simp
theorem midM_self (M : Nat → Nat → Bool) (b j : Nat) : midM M b j b = M b := by
  unfold midM; split
  · exact stepM_self M b
  · rfl
theorem mid_false {M : Nat → Nat → Bool} {b j : Nat} (h : M j b = false) : midM M b (j + 1) = midM M b j := by
  funext i
  by_cases e : i = j
  · subst e
    simp only [midM, Nat.lt_succ_self, if_true, Nat.lt_irrefl, if_false]
    funext x
    simp [stepM, h]
  · simp only [midM]
    by_cases e2 : i < j
    · rw [if_pos (by omega), if_pos e2]
    · rw [if_neg (by omega), if_neg e2]
theorem mid_ne {M : Nat → Nat → Bool} {b i j : Nat} (h : i ≠ j) : midM M b (j + 1) i = midM M b j i := by
  simp only [midM]
  by_cases e2 : i < j
  · rw [if_pos (by omega), if_pos e2]
  · rw [if_neg (by omega), if_neg e2]
theorem mid_at (M : Nat → Nat → Bool) (b j : Nat) : midM M b (j + 1) j = stepM M b j := by simp [midM]
end Go.Proofs.YtdcjfpjpboafnaaDoor
