/- The graph: how many vertices, the row of a vertex. -/
import Derived.Test.YtdcjfpjpboafnaaDoorNewG
namespace Go.Proofs.YtdcjfpjpboafnaaDoor
set_option linter.all false
open Go.RowKit
set_option maxRecDepth 100000

/-- The arcs of J rise by where they begin, and lie below n. -/
structure JOk (n : Nat) (J : List ArcI) : Prop where
  ends : ∀ a ∈ J, 0 ≤ a.f ∧ a.f < n ∧ 0 ≤ a.t ∧ a.t < n
  rise : ∀ p q, p < q → q < J.length → (J.getD p default).f ≤ (J.getD q default).f
def rowL (J : List ArcI) (v : Nat) : List ArcI := (J.drop (cntF J v)).take (cnt1 J (v + 1))
theorem cnt_add_le (J : List ArcI) (v : Nat) : cntF J v + cnt1 J (v + 1) ≤ J.length := by rw [← cntF_succ]; exact cntF_le _ _
theorem rowL_len (J : List ArcI) (v : Nat) : (rowL J v).length = cnt1 J (v + 1) := by
  have := cnt_add_le J v
  rw [rowL, List.length_take, List.length_drop]; omega
/-- A graph, whole. -/
structure IsG (W : World) (g n : Nat) (J : List ArcI) (ab : Nat) (A : Option Addr) (c : Nat) : Prop where
  room : n ≤ 1024
  ok : JOk n J
  gx : GX W g n J ab A c
section
variable {W W' : World} {g n ab c : Nat} {J : List ArcI} {A : Option Addr}
theorem ArcBlk.grow {B : Nat} (h : ArcBlk W A) (f : Grow B W W') : ArcBlk W' A := h.imp id (fun ⟨b, o, cs, e, hh⟩ => ⟨b, o, cs, e, f.heap hh⟩)
theorem GX.grow {B : Nat} (h : GX W g n J ab A c) (f : Grow B W W') : GX W' g n J ab A c := by
  obtain ⟨h1, ⟨vs, h2, h3, h4⟩, h5, h6, h7⟩ := h
  exact ⟨f.heap h1, ⟨vs, f.heap h2, h3, h4⟩, h5.grow f, h6, h7.grow f⟩
/-- A graph outlives what is written into blocks of other types. -/
theorem GX.fr {S : Nat → Prop} (h : GX W g n J ab A c) (f : Fr S W W') (hS : ∀ k cs t fz, S k → W.heap[k]? = some (.cells cs t fz) → t ≠ 97 ∧ t ≠ 3 ∧ t ≠ 65) : GX W' g n J ab A c := by
  obtain ⟨h1, ⟨vs, h2, h3, h4⟩, h5, h6, h7⟩ := h
  refine ⟨f.heap h1 (fun hs => (hS _ _ _ _ hs h1).1 rfl), ⟨vs, f.heap h2 (fun hs => (hS _ _ _ _ hs h2).2.1 rfl), h3, h4⟩, ⟨h5.1, ?_⟩, h6, ?_⟩
  · rcases h5.2 with e | ⟨b, o, e, hc⟩
    · exact .inl e
    · rcases h7 with e2 | ⟨b', o', cs, e2, hh⟩
      · rw [e2] at e; cases e
      · rw [e2] at e; cases e
        exact .inr ⟨_, _, e2, fun j hj => (hc j hj).fr f (fun hs => (hS _ _ _ _ hs hh).2.2 rfl)⟩
  · rcases h7 with e2 | ⟨b', o', cs, e2, hh⟩
    · exact .inl e2
    · exact .inr ⟨b', o', cs, e2, f.heap hh (fun hs => (hS _ _ _ _ hs hh).2.2 rfl)⟩
theorem IsG.grow {B : Nat} (h : IsG W g n J ab A c) (f : Grow B W W') : IsG W' g n J ab A c := ⟨h.room, h.ok, h.gx.grow f⟩
theorem IsG.fr0 (h : IsG W g n J ab A c) (f : Fr0 W W') : IsG W' g n J ab A c := h.grow (Fr0.grow f 0)
theorem IsG.fr {S : Nat → Prop} (h : IsG W g n J ab A c) (f : Fr S W W') (hS : ∀ k cs t fz, S k → W.heap[k]? = some (.cells cs t fz) → t ≠ 97 ∧ t ≠ 3 ∧ t ≠ 65) : IsG W' g n J ab A c := ⟨h.room, h.ok, h.gx.fr f hS⟩
end
theorem LenG_nil (W : World) : Calls Tryd.prog 38 #[.pointer none] W fun e w' => e = .returned (.int .i64 0) ∧ W = w' := by
  go_enter Tryd.func38, Tryd.ntmps38
  go_wp2_with fail
  go_ret
  exact ⟨rfl, rfl⟩
theorem LenG_is {W : World} {g n ab c : Nat} {J : List ArcI} {A : Option Addr} (h : IsG W g n J ab A c) : Calls Tryd.prog 38 #[.pointer (some ⟨g, 0, none⟩)] W fun e w' => e = .returned (.int .i64 n) ∧ W = w' := by
  have h1 := h.gx.1
  have hn := h.room
  have g0 : W.cell? ⟨g, 0, none⟩ = some (.slice (some ⟨ab, 0, none⟩) (n + 1) (n + 1)) := by simp [World.cell?, h1]
  clear h h1
  go_enter Tryd.func38, Tryd.ntmps38
  go_wp2_with fail
  all_goals
    go_ret
    first
    | exact ⟨rfl, rfl⟩
    | (have e : n = 0 := by omega
       subst e
       exact ⟨rfl, rfl⟩)
/-- Where the row of the arcs behind the first x ones stands. -/
def rowA (A : Option Addr) (c x : Nat) : Option Addr := if c = x then A else Option.map (fun x_1 => x_1.add (x * 3)) A
theorem rowL_get {J : List ArcI} {v j : Nat} (h : j < (rowL J v).length) : (rowL J v).getD j default = J.getD (cntF J v + j) default := by
  rw [rowL_len] at h
  rw [rowL, List.getD_eq_getElem?_getD, List.getElem?_take, if_pos h, List.getElem?_drop, ← List.getD_eq_getElem?_getD]
theorem rowL_at {W : World} {A : Option Addr} {J : List ArcI} {v c : Nat} (h : ArcsAt W A J) (hc : J.length ≤ c) :
    ArcsAt W (rowA A c (cntF J v)) (rowL J v) := by
  unfold rowA
  have hle := cnt_add_le J v
  have hlen := rowL_len J v
  have hJ := h.1
  refine ⟨by omega, ?_⟩
  by_cases e0 : rowL J v = []
  · exact .inl e0
  · have hp : 0 < (rowL J v).length := by
      cases hh : rowL J v with
      | nil => exact absurd hh e0
      | cons a l => simp
    rcases h.2 with rfl | ⟨b, o, rfl, hc2⟩
    · simp at hle; omega
    · right
      rw [if_neg (by omega)]
      refine ⟨b, o + cntF J v * 3, ?_, fun j hj => ?_⟩
      · simp only [Option.map_some, Addr.add]
        by_cases e1 : cntF J v * 3 = 0
        · rw [if_pos e1, e1]; rfl
        · rw [if_neg e1]
      · rw [rowL_get hj, show o + cntF J v * 3 + j * 3 = o + (cntF J v + j) * 3 by omega]
        exact hc2 _ (by omega)
def RowPost (W : World) (A : Option Addr) (n : Nat) (v : Value) (w' : World) : Prop := ∃ c, v = .slice A n c ∧ Fr0 W w'
theorem row_is {W : World} {g n ab c : Nat} {J : List ArcI} {A : Option Addr} (h : IsG W g n J ab A c) (v : Nat) (hv : v < n) :
    Calls Tryd.prog 78 #[.pointer (some ⟨g, 0, none⟩), .int .i64 v] W (Rets (RowPost W (rowA A c (cntF J v)) (rowL J v).length)) := by
  have HL := Lib.hid (LenG_is h)
  obtain ⟨h1, ⟨vs, h2, h3, h4⟩, h5, h6, _⟩ := h.gx
  have hn := h.room
  have g0 : W.cell? ⟨g, 0, none⟩ = some (.slice (some ⟨ab, 0, none⟩) (n + 1) (n + 1)) := by simp [World.cell?, h1]
  have g1 : W.cell? ⟨g, 1, none⟩ = some (.slice A J.length c) := by simp [World.cell?, h1]
  have a0 := h2.cell (i := v) (by omega)
  have a1 := h2.cell (i := v + 1) (by omega)
  rw [h4 v (by omega)] at a0
  rw [h4 (v + 1) (by omega), cntF_succ] at a1
  have hle := cnt_add_le J v
  have hlen := rowL_len J v
  have b1 : (v : Int) + 1 < (n : Int) + 1 := by omega
  have b2 : (v : Int) < (n : Int) + 1 := by omega
  have b3 : (v : Int) < (n : Int) := by omega
  have ht : ((v : Int) + 1).toNat = v + 1 := by omega
  have hw1 : IntKind.i64.wrap ((v : Int) + 1) = (v : Int) + 1 := by rw [IntKind.wrap_i64]; omega
  generalize hx : cntF J v = x at a0 a1 hle ⊢
  generalize hy : cnt1 J (v + 1) = y at a1 hle hlen
  have HY := Lib.hid hlen
  clear h h1 h2 h3 h4 hx hy hlen
  have hJ := h5.1
  go_enter Tryd.func78, Tryd.ntmps78
  go_wp2_with (go_at_call 38; refine HL.out.mono ?_; rintro e w' ⟨rfl, rfl⟩)
  go_quiet (fail)
  go_wp2_with fail
  all_goals
    go_ret
    first
    | (refine ⟨_, rfl, 0, ?_, fr_drewN _ _ _⟩; rw [HY.out, rowA, if_pos (by first | rfl | assumption)]; rfl)
    | (refine ⟨_, rfl, c - x, ?_, fr_drewN _ _ _⟩; rw [HY.out, rowA, if_neg (by assumption)]; rfl)
end Go.Proofs.YtdcjfpjpboafnaaDoor
