/- Rows of whole numbers: those that a slice's value leads to, and one's own. -/
import Derived.Test.YtdcjfpjpboafnaaDoorBase
import Derived.BigRegion
import Derived.Deep.Onto
import Derived.BigRegionIn
import Derived.StillTailTactics
import Derived.Deep.RegionWith
import Derived.Deep.RegionHeldLaw
import Derived.Deep.RegionHeld3
import Derived.Deep.DeepCutAuto
import Derived.WalkSpells
import Derived.WalkLawsBesides
import Derived.Deep.AppendLies
import Derived.RegionIn
import Derived.Laws.EntriesVeiled
namespace Go.Proofs.YtdcjfpjpboafnaaDoor
set_option linter.all false
open Go.RowKit
set_option maxRecDepth 100000

theorem own_form {W : World} {B e size n : Nat} {v : Value} {xs : List Value} (h : W.ownsRow B e size v n xs) : ∃ A c, v = .slice A n c := by
  rcases h.2 with ⟨rfl, rfl⟩ | ⟨g, cap, cur, rfl, _⟩
  · exact ⟨none, 0, rfl⟩
  · exact ⟨_, _, rfl⟩
theorem own_cap {W : World} {B c e size n : Nat} {A : Option Addr} {xs : List Value} (h : W.ownsRow B e size (.slice A n c) n xs) : n ≤ c := by
  rcases h.2 with ⟨_, rfl⟩ | ⟨g, cap, cur, e, _, _, hc, _⟩
  · exact Nat.zero_le _
  · cases e; exact hc
theorem info_int : (Tryd.prog.info? 3).map (fun i => (i.zero, i.size, i.bytes)) = some (some (.int .i64 0), 1, 8) := by kernel_rfl
def ints (l : List Nat) : List Value := l.map (fun k : Nat => .int .i64 (k : Int))
/-- A list of one's own was made: what lay there lies there still. -/
def ListPost (w : World) (l : List Nat) (v : Value) (w' : World) : Prop := Fr0 w w' ∧ w'.ownsRow w.heap.size 3 1 v l.length (ints l)
/-- A row of whole numbers, where a slice's value says. -/
def IntsAt (W : World) (A : Option Addr) (xs : List Int) : Prop :=
  xs.length ≤ 140737488355328 ∧ (xs = [] ∨ ∃ b o, A = some ⟨b, o, none⟩ ∧ ∀ j, j < xs.length → W.cell? ⟨b, o + j, none⟩ = some (.int .i64 (xs.getD j 0)))
theorem IntsAt.grow {B : Nat} {W W' : World} {A : Option Addr} {xs : List Int} (h : IntsAt W A xs) (f : Grow B W W') : IntsAt W' A xs := by
  refine ⟨h.1, h.2.imp id ?_⟩
  rintro ⟨b, o, e, hc⟩
  exact ⟨b, o, e, fun j hj => f.cell (hc j hj)⟩
theorem IntsAt.fr0 {W W' : World} {A : Option Addr} {xs : List Int} (h : IntsAt W A xs) (f : Fr0 W W') : IntsAt W' A xs := h.grow (Fr0.grow f 0)

theorem take_snoc (xs : List Int) (j : Nat) (h : j < xs.length) : xs.take (j + 1) = xs.take j ++ [xs.getD j 0] := by
  rw [List.take_succ_eq_append_getElem h]; simp [List.getD_eq_getElem?_getD, List.getElem?_eq_getElem h]
def natI (l : List Nat) : List Int := l.map (fun k : Nat => (k : Int))
theorem own_ints {W : World} {B c : Nat} {A : Option Addr} {l : List Nat} (h : W.ownsRow B 3 1 (.slice A l.length c) l.length (ints l)) (hlen : l.length ≤ 140737488355328) : IntsAt W A (natI l) := by
  refine ⟨by simpa [natI] using hlen, ?_⟩
  rcases h.2 with ⟨_, e⟩ | ⟨g, cap, cur, e, _⟩
  · left; rw [List.length_eq_zero_iff.1 e]; rfl
  · cases e
    refine .inr ⟨g, 0, rfl, fun j hj => ?_⟩
    have hj' : j < l.length := by simpa [natI] using hj
    rw [Nat.zero_add, h.cellAt j (by omega)]
    simp [ints, natI, List.getD_eq_getElem?_getD, List.getElem?_eq_getElem hj']
theorem take_snoc_n (l : List Nat) (j : Nat) (h : j < l.length) : l.take (j + 1) = l.take j ++ [l.getD j 0] := by
  rw [List.take_add_one, List.getElem?_eq_getElem h, List.getD_eq_getElem?_getD, List.getElem?_eq_getElem h]; rfl
theorem IntsAt.at_ {W : World} {A : Option Addr} {xs : List Int} (h : IntsAt W A xs) {k : Nat} (hk : k < xs.length) : ∃ b o, A = some ⟨b, o, none⟩ ∧ W.cell? ⟨b, o + k, none⟩ = some (.int .i64 (xs.getD k 0)) := by
  rcases h.2 with e | ⟨b, o, e, hc⟩
  · subst e; cases hk
  · exact ⟨b, o, e, hc k hk⟩
def SamePost (b : Bool) (W : World) (v : Value) (w' : World) : Prop := v = .bool b ∧ Fr0 W w'
def intsI (l : List Int) : List Value := l.map (fun x => .int .i64 x)
theorem intsI_snoc (l : List Int) (x : Int) : intsI l ++ [.int .i64 x] = intsI (l ++ [x]) := by simp [intsI]
theorem intsI_natI (l : List Nat) : intsI (natI l) = ints l := by simp [intsI, natI, ints]
/-- A row of numbers is handed back, in new memory. -/
def IListPost (w : World) (l : List Int) (v : Value) (w' : World) : Prop := Fr0 w w' ∧ w'.ownsRow w.heap.size 3 1 v l.length (intsI l)
theorem IListPost.nat {w w' : World} {l : List Nat} {v : Value} (h : IListPost w (natI l) v w') : ListPost w l v w' := ⟨h.1, by have := h.2; rw [intsI_natI] at this; simpa [natI] using this⟩
theorem ListPost.int {w w' : World} {l : List Nat} {v : Value} (h : ListPost w l v w') : IListPost w (natI l) v w' := ⟨h.1, by rw [intsI_natI]; simpa [natI] using h.2⟩
theorem own_intsI {W : World} {B c : Nat} {A : Option Addr} {l : List Int} (h : W.ownsRow B 3 1 (.slice A l.length c) l.length (intsI l)) (hlen : l.length ≤ 140737488355328) : IntsAt W A l := by
  refine ⟨hlen, ?_⟩
  rcases h.2 with ⟨_, e⟩ | ⟨g, cap, cur, e, _⟩
  · left; exact List.length_eq_zero_iff.1 e
  · cases e
    refine .inr ⟨g, 0, rfl, fun j hj => ?_⟩
    rw [Nat.zero_add, h.cellAt j (by omega)]
    simp [intsI, List.getD_eq_getElem?_getD, List.getElem?_eq_getElem hj]
theorem take_succ_I (l : List Int) (j : Nat) (h : j < l.length) : l.take (j + 1) = l.take j ++ [l.getD j 0] := by
  rw [List.take_add_one, List.getElem?_eq_getElem h, List.getD_eq_getElem?_getD, List.getElem?_eq_getElem h]; rfl
theorem mem_natI {x : Int} {l : List Nat} : x ∈ natI l ↔ ∃ k ∈ l, (k : Int) = x := by simp [natI]
theorem rise_natI {l : List Nat} (h : l.Pairwise (· < ·)) : (natI l).Pairwise (· < ·) := by
  rw [natI, List.pairwise_map]
  exact h.imp (fun h => by omega)
/-- A slice's value that is nil only if it is empty. -/
def Plain (A : Option Addr) (n c : Nat) : Prop := A = none → n = 0 ∧ c = 0
theorem plain_own {W : World} {B e size n c : Nat} {A : Option Addr} {xs : List Value} (h : W.ownsRow B e size (.slice A n c) n xs) : Plain A n c := by
  intro hA
  subst hA
  rcases h.2 with ⟨e, rfl⟩ | ⟨g, cap, cur, e, _⟩
  · cases e; exact ⟨rfl, rfl⟩
  · cases e
theorem ints_news {W : World} {b o : Nat} {ys : List Int} (h : IntsAt W (some ⟨b, o, none⟩) ys) : ∀ j u, (intsI ys)[j]? = some u → W.cell? ((⟨b, o, none⟩ : Addr).add j) = some u := by
  intro j u hu
  have hj : j < ys.length := by
    have := (List.getElem?_eq_some_iff.1 hu).1
    simpa [intsI] using this
  obtain ⟨b', o', e, hc⟩ := h.at_ hj
  injection e with e
  injection e with e1 e2 _
  subst e1
  subst e2
  have e2 : (⟨b, o, none⟩ : Addr).add j = ⟨b, o + j, none⟩ := by simp [Addr.add]
  rw [e2, hc, ← hu]
  simp [intsI, List.getD_eq_getElem?_getD, List.getElem?_eq_getElem hj]
theorem intsI_one (ys : List Int) : ∀ u ∈ intsI ys, u.oneCell' = true := by
  intro u hu
  obtain ⟨x, _, rfl⟩ := List.mem_map.1 hu
  rfl
section
variable {P : Program} {fn : Func} {R : Ending → World → Prop} {tmps : Array Value} {W : World} {D : Nat}
theorem leaveC (hk : W.heap[D]? = some (.deferred (some []))) (h : ∀ W', Grow D W W' → ∃ v, (results fn tmps).run P W' = .ok v W' ∧ R (.returned v) W') :
    bodyPostM Fence.wide 0 P fn R .ret { tmps, defers := [{ target := .collected D, args := #[] }] } W :=
  ⟨by simp, .inl ⟨_, _, rfl, run_takeDeferred hk, h _ (shut_mark hk)⟩⟩
theorem leaveC0 {v : Value} (h : (results fn tmps).run P W = .ok v W) (hR : R (.returned v) W) : bodyPostM Fence.wide 0 P fn R .ret { tmps, defers := [] } W := ⟨v, h, hR⟩
end
theorem wpListIn_append_own_at {F : Fence} {n : Nat} {P : Program} (w : World) {ops : Array Oper} {rest : List Oper} {o : Oper} {a : Act} {Q : Exit → Act → World → Prop}
    (hg : o.guard = none) (s x : Operand) (t : TypeId) (hop : o.op = Op.call { callee := Callee.builtin Builtin.append, args := #[s, x], argTypes := #[t, t] })
    (base : Nat) (e : TypeId) (i : TypeInfo) (z : Value) (size bytes : Nat) (h1 : P.underlying t = some (.slice e)) (h2 : P.info? e = some i) (h3 : i.zero = some z) (h4 : i.size = size) (h5 : i.bytes = bytes) (h6 : z.cells.size = size) (h7 : 0 < size)
    (v : Value) (k : Nat) (xs : List Value) (hs : a.eval s = v) (hown : w.ownsRow base e size v k xs) (ad : Addr) (m c : Nat) (news : List Value) (hx : a.eval x = .slice (some ad) m c) (hn : news.length = m * size)
    (hc : ∀ j u, news[j]? = some u → w.cell? (ad.add j) = some u) (h1c : ∀ u ∈ news, u.oneCell' = true) (b1 : k + m ≤ maxLen) (b2 : (k + m) * bytes ≤ 140737488355328) (b3 : base ≤ w.heap.size)
    (hK : ∀ v' w', w'.ownsRow base e size v' (k + m) (xs ++ news) → w.grownBy w' v.ownBlock → (v'.ownBlock = v.ownBlock ∨ v'.ownBlock = some w.heap.size) → wpListIn F n P ops Q rest (a.put o.dst v') w') :
    wpListIn F n P ops Q (o :: rest) a w := by
  refine wpListIn_plain hg fun K hK' => ?_
  obtain ⟨v', w', hrun, r1, r2, _, r3⟩ := run_append_own_at (P := P) w base t o.type e i z size bytes h1 h2 h3 h4 h5 h6 h7 v k xs hown ad m c news hn hc h1c b1 b2 b3
  unfold Oper.wpIn
  refine ⟨?_, ?_⟩
  · simp [Oper.about, hop, resolve, Target.leads, Sem.run_pure]
  · rw [Oper.semAt_plain F _ _ (by rw [hop]; intro c hc'; cases hc')]
    simp [execOp, hop, resolve, invoke, builtin, hs, hx, hrun, Result.andThen]
    exact hK' _ _ (hK v' w' r1 r2 r3)
theorem elem_ints : Tryd.prog.underlying 33 = some (.slice (Tryd.prog.elem 33)) := by kernel_rfl
theorem slice_head (A : Option Addr) (n c k : Nat) (hk : k ≤ c) (wx : World) : (Instr.slice 33 (.slice A n c) none (some (.int .i64 (k : Int))) none).run Tryd.prog wx = .ok (.slice A k c) wx := by
  rw [run_slice_h (P := Tryd.prog) wx 33 A n c elem_ints .i64 (k : Int) (by omega) (by omega)]
  go_simp
theorem IntsAt.take {W : World} {A : Option Addr} {xs : List Int} (h : IntsAt W A xs) (k : Nat) : IntsAt W A (xs.take k) := by
  refine ⟨Nat.le_trans (by rw [List.length_take]; omega) h.1, ?_⟩
  rcases h.2 with rfl | ⟨b, o, e, hc⟩
  · exact .inl (by simp)
  · refine .inr ⟨b, o, e, fun j hj => ?_⟩
    rw [List.length_take] at hj
    rw [hc j (by omega), List.getD_eq_getElem?_getD, List.getD_eq_getElem?_getD, List.getElem?_take_of_lt (by omega)]
theorem IterSpec.mono {α : Type} {P : Program} {gf : Nat} {lb : Array Value} {encs : α → Array Value} {xs : List α} {K K' : World → Prop} (h : IterSpec P gf lb encs xs K) (hK : ∀ W, K' W → K W) : IterSpec P gf lb encs xs K' :=
  fun l J Jx W hl hJ => h l J Jx W hl (fun pre W1 hj => hK _ (hJ pre W1 hj))
theorem ints_lit {W : World} {N t : Nat} {l : List Int} {fz : Nat × Nat} (h : W.heap[N]? = some (.cells (intsI l).toArray t fz)) (hl : l.length ≤ 140737488355328) : IntsAt W (some ⟨N, 0, none⟩) l := by
  refine ⟨hl, .inr ⟨N, 0, rfl, fun j hj => ?_⟩⟩
  simp [World.cell?, h, intsI, List.getD_eq_getElem?_getD, List.getElem?_eq_getElem hj]
end Go.Proofs.YtdcjfpjpboafnaaDoor
