/- The neighbours that are gone through are the document's: pure. -/
import Derived.Test.YtdihpobegoihkaaDoorTurnPure
import Derived.Test.YtdihpobegoihkaaDoorNextNil
namespace Go.Proofs.YtdihpobegoihkaaDoor
set_option linter.all false
open Go.RowKit

theorem nextL_rise {n : Nat} {l J : List ArcI} (h : Built n l J) (v : Nat) (m : Int) (pw : Nat → Bool) : (nextL J v m pw).Pairwise (· < ·) := by
  have hp := h.ok.pair
  obtain ⟨h1, s, hpm, hs, rfl⟩ := h
  have hk : (joinL s).Pairwise (fun a b => ltK (keyA a) (keyA b)) := List.pairwise_map.1 (joinL_keys hs)
  rw [nextL, outL, rowL_filter v _ hp, List.pairwise_map]
  refine List.Pairwise.imp_of_mem ?_ (((hk.filter _).filter _).filter _)
  intro a b ha hb hab
  have e1 : a.f = (v : Int) := of_decide_eq_true (List.mem_filter.1 (List.mem_filter.1 (List.mem_filter.1 ha).1).1).2
  have e2 : b.f = (v : Int) := of_decide_eq_true (List.mem_filter.1 (List.mem_filter.1 (List.mem_filter.1 hb).1).1).2
  rcases hab with h | h
  · simp only [keyA] at h; omega
  · exact h.2
theorem nextL_ends {n : Nat} {l J : List ArcI} (h : Built n l J) {v : Nat} {m : Int} {pw : Nat → Bool} {x : Int} (hx : x ∈ nextL J v m pw) : ∃ w : Nat, x = w ∧ w < n := by
  have hp := h.ok.pair
  have hok := h.ok
  rw [nextL, outL, rowL_filter v _ hp] at hx
  obtain ⟨a, ha, rfl⟩ := List.mem_map.1 hx
  have hJ : a ∈ J := (List.mem_filter.1 (List.mem_filter.1 (List.mem_filter.1 ha).1).1).1
  have := hok.ends a hJ
  exact ⟨a.t.toNat, by omega, by omega⟩
/-- What is gone through from any number on. -/
def nextV (n : Nat) (J : List ArcI) (v m : Int) (pw : Nat → Bool) : List Int := if 0 ≤ v ∧ v < n then nextL J v.toNat m pw else []
theorem nextV_is {n : Nat} {l J : List ArcI} (h : Built n l J) {Mx : Nat → Nat → Int} {m : Int} {xs : List Int} (hn : n ≤ 100) (hE : ∀ u w : Nat, outR n Mx (u : Int) m w = rowM n J m u w) (v : Int) :
    nextV n J v m (putP 100 (fun _ => false) xs) = natI ((elems n (outR n Mx v m)).filter (fun w : Nat => decide ((w : Int) ∈ xs))) := by
  unfold nextV
  split
  · rename_i hv
    obtain ⟨u, rfl⟩ : ∃ u : Nat, v = u := ⟨v.toNat, by omega⟩
    rw [Int.toNat_natCast]
    refine rise_extI (nextL_rise h _ _ _) (rise_natI ((elems_sorted _ _).filter _)) fun x => ?_
    rw [mem_natI]
    have key : ∀ w : Nat, w < n → (arcB n J m (putP 100 (fun _ => false) xs) u w = true ↔ w ∈ (elems n (outR n Mx (u : Int) m)).filter (fun w : Nat => decide ((w : Int) ∈ xs))) := by
      intro w hw
      have hw1 : w < 100 := by omega
      rw [List.mem_filter, elems, List.mem_filter, List.mem_range, hE, arcB]
      simp [putP, hw, hw1]
    constructor
    · intro hx
      obtain ⟨w, rfl, hw⟩ := nextL_ends h hx
      exact ⟨w, (key w hw).1 (next_arc.1 ⟨hx, hw⟩), rfl⟩
    · rintro ⟨w, hw, rfl⟩
      have hwn : w < n := List.mem_range.1 (List.mem_filter.1 (List.mem_filter.1 hw).1).1
      exact (next_arc.2 ((key w hwn).2 hw)).1
  · rename_i hv
    rw [show elems n (outR n Mx v m) = [] from ?_]
    · rfl
    · rw [elems, List.filter_eq_nil_iff]
      intro w _
      rw [outR_out hv]; simp

/-- What an iterator over neighbours has caught: the graph, the vertex, the set, the mask. -/
def NextBoxes (W : World) (k : Nat) (p wp : Option Addr) (v m : Int) : Prop :=
  Box W k 32 (.pointer p) ∧ Box W (k + 1) 3 (.int .i64 v) ∧ Box W (k + 2) 34 (.pointer wp) ∧ Box W (k + 3) 3 (.int .i64 m)
theorem next_boxes {w w2 : World} {p wp : Option Addr} {v m : Int} (hw2 : (((w.alloc (.cells #[.pointer p] 32)).alloc (.cells #[.int .i64 v] 3)).alloc (.cells #[.pointer wp] 34)).alloc (.cells #[.int .i64 m] 3) = w2) :
    NextBoxes w2 w.heap.size p wp v m ∧ Fr0 w w2 ∧ w2.heap.size = w.heap.size + 4 := by
  refine ⟨⟨hw2 ▸ (Box.new w _ _).fr0 (((fr_alloc _ _ _).alloc _).alloc _), ?_, ?_, ?_⟩, hw2 ▸ (((fr_alloc _ _ _).alloc _).alloc _).alloc _, by rw [← hw2]; simp⟩
  · have := Box.new (w.alloc (.cells #[.pointer p] 32)) 3 (.int .i64 v)
    rw [World.size_alloc] at this
    exact hw2 ▸ this.fr0 ((fr_alloc _ _ _).alloc _)
  · have := Box.new ((w.alloc (.cells #[.pointer p] 32)).alloc (.cells #[.int .i64 v] 3)) 34 (.pointer wp)
    rw [World.size_alloc, World.size_alloc] at this
    exact hw2 ▸ this.fr0 (fr_alloc _ _ _)
  · have := Box.new (((w.alloc (.cells #[.pointer p] 32)).alloc (.cells #[.int .i64 v] 3)).alloc (.cells #[.pointer wp] 34)) 3 (.int .i64 m)
    rw [World.size_alloc, World.size_alloc, World.size_alloc] at this
    exact hw2 ▸ this
theorem IterSpecF.mono {α : Type} {P : Program} {gf : Nat} {lb : Array Value} {encs : α → Array Value} {xs : List α} {K K' : World → Prop} (h : IterSpecF P gf lb encs xs K) (hK : ∀ W, K' W → K W) : IterSpecF P gf lb encs xs K' :=
  fun l J Jx W hl hJ => h l J Jx W hl (fun R pre W1 hj => hK _ (hJ R pre W1 hj))
theorem next_spec {W : World} {k : Nat} {p : Option Addr} {n : Nat} {J : List ArcI} {v m : Int} {wg wa nb : Nat} {pw : Nat → Bool} (hb : NextBoxes W k p (some ⟨wg, 0, none⟩) v m) (hg : GP W p n J) (hB : IsBits W wg wa nb pw) :
    IterSpecF Tryd.prog 84 #[.pointer (some ⟨k, 0, none⟩), .pointer (some ⟨k + 1, 0, none⟩), .pointer (some ⟨k + 3, 0, none⟩), .pointer (some ⟨k + 2, 0, none⟩)] encI (nextV n J v m pw) (fun W' => Fr0 W W') := by
  obtain ⟨b1, b2, b3, b4⟩ := hb
  by_cases hv : 0 ≤ v ∧ v < n
  · obtain ⟨u, rfl⟩ : ∃ u : Nat, v = u := ⟨v.toNat, by omega⟩
    rw [nextV, if_pos hv, Int.toNat_natCast]
    obtain ⟨g, ab, A, c, rfl, hG⟩ : ∃ g ab A c, p = some ⟨g, 0, none⟩ ∧ IsG W g n J ab A c := by
      rcases hg with ⟨_, h, _⟩ | h
      · omega
      · exact h
    exact (Next1_is k g n J ab A c u m wg wa nb pw (by omega)).mono (fun W' f => ⟨b1.fr0 f, b2.fr0 f, b3.fr0 f, b4.fr0 f, hG.fr0 f, hB.fr0 f⟩)
  · rw [nextV, if_neg hv]
    exact (Next1_none k p n J v m hv).mono (fun W' f => ⟨b1.fr0 f, b2.fr0 f, b4.fr0 f, hg.fr0 f⟩)
end Go.Proofs.YtdihpobegoihkaaDoor
