/- What every walk of this seat stands on: frames between two worlds, rows of cells, and a law for ranging over a function. -/
import Derived.Test.YtdcjfpjpboafnaaDoorRows
import Derived.RangeFuncNested
import Derived.RangeFuncBound
import Derived.RangeFuncCalls
import Derived.RangeFuncLeaves
import Derived.Shelf.Abstract
import Derived.Shelf.RegionOpen
import Derived.WalkKit
import Derived.OwnWalkIn
import Derived.TacticsInMore
import Derived.LoopNIn
import Derived.LoopIn
import Derived.Deep.QuietTactic
import Derived.BigQuiet
import Derived.Lib.Hide
import Derived.Maps.AppendAt
import Derived.RangeFuncBox
namespace Go.Proofs.YtdcjfpjpboafnaaDoor
set_option linter.all false
open Go.RowKit

/-- It returns a value, of which R holds with the world then. -/
def Rets (R : Value → World → Prop) (e : Ending) (w : World) : Prop := ∃ v, e = .returned v ∧ R v w
theorem Rets.mk {R : Value → World → Prop} {v : Value} {w : World} (h : R v w) : Rets R (.returned v) w := ⟨v, rfl, h⟩

theorem wide_fn (f : Nat) : Fence.wide.fn f = True := rfl
theorem wide_depth : Fence.wide.depth = none := rfl
theorem none_isSome_imp (p : Prop) : ((none : Option Nat).isSome = true → p) = True := by simp
attribute [go_sem] wide_fn wide_depth none_isSome_imp

/-- Append, not to be laid open by a walk. -/
def appendH (ts : Array TypeId) (ty : TypeId) (vs : Array Value) : Sem Value := Builtin.append_ ts ty vs
theorem appendH_eq (ts : Array TypeId) (ty : TypeId) (vs : Array Value) : Builtin.append_ ts ty vs = appendH ts ty vs := rfl
theorem int_eq {k : IntKind} {a b : Int} (h : a = b) : Value.int k a = Value.int k b := by rw [h]
/-- What holds data: cells, or a map. -/
def isData : Obj → Bool
  | .cells .. => true
  | .map .. => true
  | _ => false

/-- From world W on to W': what is not of S lies as it lay; what is no data lies as it lay. -/
structure Fr (S : Nat → Prop) (W W' : World) : Prop where
  os : W'.os = W.os
  tape : W'.tape = W.tape
  output : W'.output = W.output
  size : W.heap.size ≤ W'.heap.size
  same : ∀ k, k < W.heap.size → ¬ S k → W'.heap[k]? = W.heap[k]?
  nd : ∀ (k : Nat) (o : Obj), W.heap[k]? = some o → isData o = false → W'.heap[k]? = some o

abbrev Fr0 : World → World → Prop := Fr (fun _ => False)

section
variable {S T : Nat → Prop} {W W' W'' : World}
theorem Fr.refl (S : Nat → Prop) (W : World) : Fr S W W := ⟨rfl, rfl, rfl, Nat.le_refl _, fun _ _ _ => rfl, fun _ _ h _ => h⟩
theorem Fr.trans (h : Fr S W W') (k : Fr T W' W'') (hT : ∀ j, j < W.heap.size → T j → S j) : Fr S W W'' :=
  ⟨k.os.trans h.os, k.tape.trans h.tape, k.output.trans h.output, Nat.le_trans h.size k.size,
   fun j hj hs => (k.same j (Nat.lt_of_lt_of_le hj h.size) (fun ht => hs (hT j hj ht))).trans (h.same j hj hs), fun j o ho hd => k.nd j o (h.nd j o ho hd) hd⟩
theorem Fr.trans0 (h : Fr S W W') (k : Fr0 W' W'') : Fr S W W'' := h.trans k (fun _ _ hf => hf.elim)
theorem Fr.mono (h : Fr S W W') (hT : ∀ j, j < W.heap.size → S j → T j) : Fr T W W' :=
  ⟨h.os, h.tape, h.output, h.size, fun j hj ht => h.same j hj (fun hs => ht (hT j hj hs)), h.nd⟩
theorem heap_lt {w : World} {k : Nat} {o : Obj} (h : w.heap[k]? = some o) : k < w.heap.size := (Array.getElem?_eq_some_iff.1 h).1
theorem Fr.heap (h : Fr S W W') {k : Nat} {o : Obj} (hk : W.heap[k]? = some o) (hs : ¬ S k) : W'.heap[k]? = some o := (h.same k (heap_lt hk) hs).trans hk
theorem Fr0.heap' (h : Fr0 W W') {k : Nat} {o : Obj} (hk : W.heap[k]? = some o) : W'.heap[k]? = some o := h.heap hk (fun x => x)
theorem Fr.cell (h : Fr S W W') {p : Addr} {v : Value} (hk : W.cell? p = some v) (hs : ¬ S p.block) : W'.cell? p = some v := by
  have hlt : p.block < W.heap.size := by
    by_cases hl : p.block < W.heap.size
    · exact hl
    · rw [World.cell?, Array.getElem?_eq_none (by omega)] at hk; cases hk
  rw [World.cell?_of_block (h.same _ hlt hs)]; exact hk
theorem fr_alloc (S : Nat → Prop) (w : World) (o : Obj) : Fr S w (w.alloc o) :=
  ⟨rfl, rfl, rfl, by simp, fun k hk _ => Below.heap_alloc _ _ _ hk, fun k o' ho _ => (Below.heap_alloc _ _ _ (heap_lt ho)).trans ho⟩
theorem fr_drew (S : Nat → Prop) (w : World) : Fr S w w.drew := ⟨rfl, rfl, rfl, Nat.le_refl _, fun _ _ _ => rfl, fun _ _ h _ => h⟩
theorem fr_drewN (S : Nat → Prop) (w : World) (n : Nat) : Fr S w (w.drewN n) := ⟨rfl, rfl, rfl, Nat.le_refl _, fun _ _ _ => rfl, fun _ _ h _ => h⟩
theorem heap_setCell_nd (w : World) (a : Addr) (u : Value) (k : Nat) (o : Obj) (h : w.heap[k]? = some o) (hd : isData o = false) : (w.setCell a u).heap[k]? = some o := by
  simp only [World.setCell, Array.getElem?_modify]
  split
  · rename_i e; subst e; rw [h]; cases o <;> first | rfl | cases hd
  · exact h
theorem fr_setCell {S : Nat → Prop} (w : World) (a : Addr) (u : Value) (hs : a.block < w.heap.size → S a.block) : Fr S w (w.setCell a u) :=
  ⟨rfl, rfl, rfl, by simp [World.setCell], fun k hk hn => Below.heap_setCell _ _ _ _ (fun e => hn (e ▸ hs (e ▸ hk))), fun k o h hd => heap_setCell_nd w a u k o h hd⟩
theorem Fr.alloc (h : Fr S W W') (o : Obj) : Fr S W (W'.alloc o) := h.trans0 (fr_alloc _ _ _)
theorem Fr.drew (h : Fr S W W') : Fr S W W'.drew := h.trans0 (fr_drew _ _)
theorem Fr.drewN (h : Fr S W W') (n : Nat) : Fr S W (W'.drewN n) := h.trans0 (fr_drewN _ _ _)
theorem Fr.setCell (h : Fr S W W') (a : Addr) (u : Value) (hs : a.block < W.heap.size → S a.block) : Fr S W (W'.setCell a u) :=
  h.trans (T := fun k => k = a.block) (fr_setCell _ _ _ (fun _ => rfl)) (fun _ hj e => by subst e; exact hs hj)
theorem Fr.below (h : Fr0 W W') : Below W.heap.size W W' := ⟨h.os, h.tape, h.output, h.size, fun k hk => h.same k hk (fun x => x)⟩
end

/-- What an iterator does of its own from block B on: new blocks; turns of what is no data, from B on. -/
structure Grow (B : Nat) (W W' : World) : Prop where
  os : W'.os = W.os
  tape : W'.tape = W.tape
  output : W'.output = W.output
  size : W.heap.size ≤ W'.heap.size
  low : ∀ k, k < B → k < W.heap.size → W'.heap[k]? = W.heap[k]?
  data : ∀ (k : Nat) (o : Obj), W.heap[k]? = some o → isData o = true → W'.heap[k]? = some o
section
variable {B : Nat} {S : Nat → Prop} {W W' W'' : World}
theorem Grow.refl (B : Nat) (W : World) : Grow B W W := ⟨rfl, rfl, rfl, Nat.le_refl _, fun _ _ _ => rfl, fun _ _ h _ => h⟩
theorem Grow.trans (h : Grow B W W') (k : Grow B W' W'') : Grow B W W'' :=
  ⟨k.os.trans h.os, k.tape.trans h.tape, k.output.trans h.output, Nat.le_trans h.size k.size,
   fun j hj hl => (k.low j hj (Nat.lt_of_lt_of_le hl h.size)).trans (h.low j hj hl), fun j o ho hd => k.data j o (h.data j o ho hd) hd⟩
theorem Grow.mono {B' : Nat} (h : Grow B' W W') (hB : B ≤ B') : Grow B W W' := ⟨h.os, h.tape, h.output, h.size, fun k hk => h.low k (Nat.lt_of_lt_of_le hk hB), h.data⟩
theorem Fr0.grow (h : Fr0 W W') (B : Nat) : Grow B W W' := ⟨h.os, h.tape, h.output, h.size, fun k _ hl => h.same k hl (fun x => x), fun _ _ ho _ => h.heap' ho⟩
theorem grow_alloc (B : Nat) (w : World) (o : Obj) : Grow B w (w.alloc o) := Fr0.grow (fr_alloc _ w o) B
theorem grow_putObj {w : World} {l : Nat} {o : Obj} (o' : Obj) (hB : B ≤ l) (h : w.heap[l]? = some o) (hd : isData o = false) : Grow B w (w.putObj l o') :=
  ⟨rfl, rfl, rfl, by simp, fun k hk _ => World.putObj_heap_other (by omega), fun k o'' hk hd' => by
    by_cases e : k = l
    · subst e; rw [h] at hk; cases hk; rw [hd] at hd'; cases hd'
    · exact (World.putObj_heap_other e).trans hk⟩
theorem Grow.heap (h : Grow B W W') {k : Nat} {cs : Array Value} {t : Nat} {f : Nat × Nat} (hk : W.heap[k]? = some (.cells cs t f)) : W'.heap[k]? = some (.cells cs t f) := h.data _ _ hk rfl
theorem Grow.cell (h : Grow B W W') {p : Addr} {v : Value} (hk : W.cell? p = some v) : W'.cell? p = some v := by
  unfold World.cell? at hk ⊢
  cases ho : W.heap[p.block]? with
  | none => rw [ho] at hk; cases hk
  | some o => cases o <;> rw [ho] at hk <;> first | (rw [h.data _ _ ho rfl]; exact hk) | cases hk
end

/-- Block c is a variable of type t, which holds v. -/
def Box (W : World) (c t : Nat) (v : Value) : Prop := W.heap[c]? = some (.cells #[v] t (0, 0))
section
variable {W W' : World} {c t : Nat} {v : Value}
theorem Box.cell (h : Box W c t v) : W.cell? ⟨c, 0, none⟩ = some v := by unfold Box at h; simp [World.cell?, h]
theorem Box.frozen (h : Box W c t v) : W.frozen? ⟨c, 0, none⟩ = false := by unfold Box at h; simp [World.frozen?, h]
theorem Box.lt (h : Box W c t v) : c < W.heap.size := heap_lt h
theorem Box.grow {B : Nat} (h : Box W c t v) (f : Grow B W W') : Box W' c t v := f.heap h
theorem Box.fr {S : Nat → Prop} (h : Box W c t v) (f : Fr S W W') (hs : ¬ S c) : Box W' c t v := f.heap h hs
theorem Box.fr0 (h : Box W c t v) (f : Fr0 W W') : Box W' c t v := f.heap h (fun x => x)
theorem Box.new (w : World) (t : Nat) (v : Value) : Box (w.alloc (.cells #[v] t)) w.heap.size t v := World.alloc_heap_new w _
theorem Box.set (h : Box W c t v) (u : Value) : Box (W.setCell ⟨c, 0, none⟩ u) c t u := by
  unfold Box at h ⊢
  simp only [World.setCell, Array.getElem?_modify, h, if_true]
  simp
end

theorem Fr.andGrow {B : Nat} {S : Nat → Prop} {W W' W'' : World} (h : Fr S W W') (f : Grow B W' W'') (hB : W.heap.size ≤ B) : Fr S W W'' :=
  ⟨f.os.trans h.os, f.tape.trans h.tape, f.output.trans h.output, Nat.le_trans h.size f.size,
   fun k hk hs => (f.low k (by omega) (Nat.lt_of_lt_of_le hk h.size)).trans (h.same k hk hs),
   fun k o ho hd => by have := h.nd k o ho hd; exact (f.low k (by have := heap_lt ho; omega) (heap_lt this)).trans this⟩

/-! ### Slices of one's own -/
section
variable {S : Nat → Prop} {W W' w1 : World} {base e size n m : Nat} {v v' : Value} {xs ys : List Value}
theorem own_fr (h : W.ownsRow base e size v n xs) (f : Fr S W W') (hs : ∀ b, v.ownBlock = some b → ¬ S b) : W'.ownsRow base e size v n xs := by
  refine ⟨h.1, h.2.imp id ?_⟩
  rintro ⟨g, cap, cur, rfl, hb, hg, rest⟩
  exact ⟨g, cap, cur, rfl, hb, f.heap hg (hs g rfl), rest⟩
theorem own_fr0 (h : W.ownsRow base e size v n xs) (f : Fr0 W W') : W'.ownsRow base e size v n xs := own_fr h f (fun _ _ x => x)
theorem own_grow {B : Nat} (h : W.ownsRow base e size v n xs) (f : Grow B W W') : W'.ownsRow base e size v n xs := by
  refine ⟨h.1, h.2.imp id ?_⟩
  rintro ⟨g, cap, cur, rfl, hb, hg, rest⟩
  exact ⟨g, cap, cur, rfl, hb, f.heap hg, rest⟩
theorem own_blk (h : W.ownsRow base e size v n xs) {b : Nat} (hb : v.ownBlock = some b) : base ≤ b ∧ b < W.heap.size ∧ ∃ cs, W.heap[b]? = some (.cells cs e (0, 0)) := by
  rcases h.2 with ⟨rfl, _⟩ | ⟨g, cap, cur, rfl, hg, hh, _⟩
  · cases hb
  · obtain rfl : g = b := by simpa [Value.ownBlock] using hb
    exact ⟨hg, heap_lt hh, _, hh⟩
/-- A block of another element type is not the row's. -/
theorem own_ne (h : W.ownsRow base e size v n xs) {k t : Nat} {cs : Array Value} {f : Nat × Nat} (hk : W.heap[k]? = some (.cells cs t f)) (ht : t ≠ e) : v.ownBlock ≠ some k := by
  intro hb
  obtain ⟨_, _, cs', hh⟩ := own_blk h hb
  rw [hk] at hh
  injection hh with hh
  injection hh with _ hh
  exact ht hh
theorem own_old (h : W.ownsRow base e size v n xs) {k : Nat} (hk : k < base) : v.ownBlock ≠ some k := fun hb => by have := (own_blk h hb).1; omega
theorem append_fr {o : Obj} (h : W.ownsRow base e size v n xs) (hg : (W.alloc o).grownBy w1 v.ownBlock) : Fr (fun k => v.ownBlock = some k) W w1 :=
  ⟨hg.os, hg.tape, hg.output, Nat.le_trans (by simp) hg.size, fun k hk hs => (hg.block k (by simp; omega) (fun x => hs x.symm)).trans (Below.heap_alloc _ _ _ hk), fun k o' ho hd => by
    refine (hg.block k (by have := heap_lt ho; simp; omega) (fun x => ?_)).trans ((Below.heap_alloc _ _ _ (heap_lt ho)).trans ho)
    obtain ⟨_, _, cs, hh⟩ := own_blk h x.symm
    rw [ho] at hh
    cases hh
    cases hd⟩
theorem append_fr0 (h : W.ownsRow base e size v n xs) (hg : W.grownBy w1 v.ownBlock) : Fr (fun k => v.ownBlock = some k) W w1 :=
  ⟨hg.os, hg.tape, hg.output, hg.size, fun k hk hs => hg.block k hk (fun x => hs x.symm), fun k o' ho hd => by
    refine (hg.block k (heap_lt ho) (fun x => ?_)).trans ho
    obtain ⟨_, _, cs, hh⟩ := own_blk h x.symm
    rw [ho] at hh
    cases hh
    cases hd⟩
/-- A variable that holds a row of one's own, one element appended: all at once. -/
theorem collect {c t : Nat} {o : Obj} (hbox : Box W c t v) (ht : t ≠ e) (h : W.ownsRow base e size v n xs) (h' : w1.ownsRow base e size v' m ys) (hg : (W.alloc o).grownBy w1 v.ownBlock) :
    Box w1 c t v ∧ Box (w1.setCell ⟨c, 0, none⟩ v') c t v' ∧ (w1.setCell ⟨c, 0, none⟩ v').ownsRow base e size v' m ys ∧ Fr (fun k => k = c ∨ v.ownBlock = some k) W (w1.setCell ⟨c, 0, none⟩ v') := by
  have hf := append_fr h hg
  have hb1 := hbox.fr hf (own_ne h hbox ht)
  refine ⟨hb1, hb1.set v', own_fr (S := fun k => k = c) h' (fr_setCell _ _ _ (fun _ => rfl)) (fun b hb e => own_ne h' hb1 ht (e ▸ hb)), ?_⟩
  exact (hf.mono (fun j _ hj => .inr hj)).trans (T := fun k => k = c) (fr_setCell _ _ _ (fun _ => rfl)) (fun j _ hj => .inl hj)
theorem own_nil (W : World) (base e size : Nat) : W.ownsRow base e size (.slice none 0 0) 0 [] := World.ownsRow_nil W base e size
end

/-- What is no data, from block B on, lies as it lay. -/
structure ND (B : Nat) (W W' : World) : Prop where
  size : W.heap.size ≤ W'.heap.size
  nd : ∀ (k : Nat) (o : Obj), B ≤ k → W.heap[k]? = some o → isData o = false → W'.heap[k]? = some o
section
variable {B : Nat} {S : Nat → Prop} {W W' W'' : World}
theorem ND.refl (B : Nat) (W : World) : ND B W W := ⟨Nat.le_refl _, fun _ _ _ h _ => h⟩
theorem ND.trans (h : ND B W W') (k : ND B W' W'') : ND B W W'' := ⟨Nat.le_trans h.size k.size, fun j o hj ho hd => k.nd j o hj (h.nd j o hj ho hd) hd⟩
theorem ND.mono {B' : Nat} (h : ND B W W') (hB : B ≤ B') : ND B' W W' := ⟨h.size, fun k o hk => h.nd k o (Nat.le_trans hB hk)⟩
theorem Fr.ND (h : Fr S W W') (B : Nat) : ND B W W' := ⟨h.size, fun k o _ ho hd => h.nd k o ho hd⟩
theorem nd_alloc (B : Nat) (w : World) (o : Obj) : ND B w (w.alloc o) := (fr_alloc (fun _ => False) w o).ND B
theorem nd_putObj {w : World} {l : Nat} (o' : Obj) (hB : l < B) : ND B w (w.putObj l o') :=
  ⟨by simp, fun k o hk ho _ => (World.putObj_heap_other (by omega)).trans ho⟩
end

/-- What an iterator comes to: all have come; or a round has said: no more. -/
def ItPost {α : Type} (l : Nat) (xs : List α) (J Jx : List α → World → Prop) (W : World) (e : Ending) (W' : World) : Prop :=
  (∃ v, e = .returned v) ∧ ND (l + 1) W W' ∧ (J xs W' ∨ ∃ pre, pre <+: xs ∧ Jx pre W')
/-- What a round comes to, for the iterator. -/
def RdPost {α : Type} (l : Nat) (pre : List α) (x : α) (J Jx : List α → World → Prop) (W1 : World) (e : Ending) (W2 : World) : Prop :=
  ND (l + 1) W1 W2 ∧ ((e = .returned (.bool true) ∧ J (pre ++ [x]) W2) ∨ (e = .returned (.bool false) ∧ Jx (pre ++ [x]) W2))

/-- THE CONTRACT OF AN ITERATOR: called with the yield of whatever loop, it hands the rounds the elements of xs, one behind the other, as long as each round keeps K; and stops where a round says so. -/
def IterSpec {α : Type} (P : Program) (gf : Nat) (lb : Array Value) (encs : α → Array Value) (xs : List α) (K : World → Prop) : Prop :=
  ∀ (l : Nat) (J Jx : List α → World → Prop) (W : World), l < W.heap.size →
    (∀ pre W1, J pre W1 → K W1) →
    (∀ pre W1 W2, J pre W1 → Grow W.heap.size W1 W2 → J pre W2) → (∀ pre W1 W2, Jx pre W1 → Grow W.heap.size W1 W2 → Jx pre W2) →
    J [] W →
    (∀ pre x W1, J pre W1 → pre ++ [x] <+: xs → YieldAt Fence.wide 0 P l (encs x) W1 (RdPost l pre x J Jx W1)) →
    CallsIn Fence.wide 0 P gf (#[.func (.yield l) #[] #[]] ++ lb) W (ItPost l xs J Jx W)

/-- What a round comes to: off its end the invariant at what has come; else the jump's own. -/
def roundQ {α : Type} (B : Nat) (I : List α → World → Prop) (Ix : Code → List α → World → Prop) (s : List α) (W : World) : Exit → Act → World → Prop
  | .normal, _, W' => ND B W W' ∧ I s W'
  | .ret, _, W' => ND B W W' ∧ Ix .ret s W'
  | .exit id, _, W' => ND B W W' ∧ Ix (.exit id) s W'
  | .goto t, _, W' => ND B W W' ∧ Ix (.goto t) s W'
  | _, _, _ => False

/-- One round, out of the walks of its two codes: the record l is ready, and is ready or done behind it. Ex: whatever else of the book-keeping is kept. -/
theorem round_law {α : Type} {P : Program} {l : Nat} {fn : Nat} {tmps0 : Array Value} {ps : Array Tmp} {assign body : Code} {W : World} {st : Array Value} {s : List α} {D : Nat}
    (rec : LoopState → Option Code → Loop) (hrec : rec = fun st pe => { state := st, pending := pe, fn, tmps := tmps0, params := ps, assign, body, defers := D })
    {B : Nat} (hB : B ≤ l) (hl : W.heap[l]? = some (.loop (rec .ready none)))
    (Ex : World → Prop) (hE1 : ∀ W1 W2, Ex W1 → ND B W1 W2 → Ex W2) (hE2 : ∀ W1 o, Ex W1 → Ex (W1.putObj l o)) (hk : Ex W)
    (I : List α → World → Prop) (Ix : Code → List α → World → Prop)
    (hI : ∀ pre W1 W2, I pre W1 → Grow B W1 W2 → I pre W2) (hIx : ∀ c pre W1 W2, Ix c pre W1 → Grow B W1 W2 → Ix c pre W2)
    (h : assign.wpIn (Fence.wide.inRound l) 0 P (Exit.then (fun a' W' => ND B W W' ∧ ∀ W2, Grow B W' W2 → body.wpIn (Fence.wide.inRound l) 0 P (roundQ B I Ix s W2) a' W2) (fun _ _ _ => False)) { tmps := st, defers := [] } W) :
    RoundIn Fence.wide 0 P l fn st assign body W fun e W3 => ND (l + 1) W W3 ∧
      ((e = .returned (.bool true) ∧ I s W3 ∧ W3.heap[l]? = some (.loop (rec .ready none)) ∧ Ex W3) ∨
       (e = .returned (.bool false) ∧ ∃ c, Ix c s W3 ∧ W3.heap[l]? = some (.loop (rec .done (some c))) ∧ Ex W3)) := by
  refine roundIn_of_wpIn trivial (wpIn_mono h ?_)
  rintro e a1 W1 hq
  cases e with
  | normal =>
    obtain ⟨hnd, hb⟩ := hq
    have hl1 := hnd.nd _ _ hB hl rfl
    have hk1 := hE1 _ _ hk hnd
    refine ⟨_, run_beginRound hl1 (by rw [hrec]), ?_⟩
    have hlt : l < W1.heap.size := heap_lt hl1
    have hl2 : (W1.putObj l (.loop { rec .ready none with state := .busy })).heap[l]? = some (.loop { rec .ready none with state := .busy }) := World.putObj_heap_same hlt
    have hk2 := hE2 _ (.loop { rec .ready none with state := .busy }) hk1
    have hn2 : ND (l + 1) W (W1.putObj l (.loop { rec .ready none with state := .busy })) := (hnd.mono (by omega)).trans (nd_putObj _ (by omega))
    refine wpIn_mono (hb _ (grow_putObj _ hB hl1 rfl)) ?_
    have fin : ∀ (jump : Option Code) (W3 : World), ND B (W1.putObj l (.loop { rec .ready none with state := .busy })) W3 →
        (Instr.endRound l jump).run P W3 = .ok (.bool jump.isNone) (W3.putObj l (.loop (rec (if jump.isNone then .ready else .done) jump))) ∧
        Grow B W3 (W3.putObj l (.loop (rec (if jump.isNone then .ready else .done) jump))) ∧ ND (l + 1) W (W3.putObj l (.loop (rec (if jump.isNone then .ready else .done) jump))) ∧
        (W3.putObj l (.loop (rec (if jump.isNone then .ready else .done) jump))).heap[l]? = some (.loop (rec (if jump.isNone then .ready else .done) jump)) ∧
        Ex (W3.putObj l (.loop (rec (if jump.isNone then .ready else .done) jump))) := fun jump W3 h3 => by
      have hl3 := h3.nd _ _ hB hl2 rfl
      have hk3 := hE1 _ _ hk2 h3
      have := run_endRound (P := P) jump hl3
      rw [hrec] at this ⊢
      exact ⟨this, grow_putObj _ hB hl3 rfl, hn2.trans ((h3.mono (by omega)).trans (nd_putObj _ (by omega))), World.putObj_heap_same (heap_lt hl3), hE2 _ _ hk3⟩
    rintro e a3 W3 hp
    cases e with
    | normal =>
      obtain ⟨h3, hi⟩ := hp
      obtain ⟨hr, hg, hnd', hl4, hk4⟩ := fin none W3 h3
      exact ⟨_, _, hr, hnd', .inl ⟨rfl, hI _ _ _ hi hg, hl4, hk4⟩⟩
    | ret =>
      obtain ⟨h3, hi⟩ := hp
      obtain ⟨hr, hg, hnd', hl4, hk4⟩ := fin (some .ret) W3 h3
      exact ⟨_, _, hr, hnd', .inr ⟨rfl, .ret, hIx _ _ _ _ hi hg, hl4, hk4⟩⟩
    | exit id =>
      obtain ⟨h3, hi⟩ := hp
      obtain ⟨hr, hg, hnd', hl4, hk4⟩ := fin (some (.exit id)) W3 h3
      exact ⟨_, _, hr, hnd', .inr ⟨rfl, .exit id, hIx _ _ _ _ hi hg, hl4, hk4⟩⟩
    | goto t =>
      obtain ⟨h3, hi⟩ := hp
      obtain ⟨hr, hg, hnd', hl4, hk4⟩ := fin (some (.goto t)) W3 h3
      exact ⟨_, _, hr, hnd', .inr ⟨rfl, .goto t, hIx _ _ _ _ hi hg, hl4, hk4⟩⟩
    | panic ch => exact hp.elim
    | outgrown => exact hp.elim
  | exit id => exact hq.elim
  | goto l => exact hq.elim
  | ret => exact hq.elim
  | panic chain => exact hq.elim
  | outgrown => exact hq.elim

/-- RANGING OVER A FUNCTION, in a function's own frame. -/
theorem range_law {α : Type} {P : Program} {g : Operand} {ps : Array Tmp} {assign body : Code} {Q : Exit → Act → World → Prop} {a : Act} {w : World}
    {gf : Nat} {lb : Array Value} (hg : a.eval g = .func (.func gf) #[] lb) (eg : ∀ args w, (callFunc gf args).run P w = .ok (.enter gf args) w)
    {encs : α → Array Value} {xs : List α} {K : World → Prop} (hit : IterSpec P gf lb encs xs K) (hps : ∀ x, (encs x).size = ps.size)
    (I : List α → World → Prop) (Ix : Code → List α → World → Prop) (hK : ∀ pre W, I pre W → K W)
    (hI : ∀ pre W1 W2, I pre W1 → Grow w.heap.size W1 W2 → I pre W2) (hIx : ∀ c pre W1 W2, Ix c pre W1 → Grow w.heap.size W1 W2 → Ix c pre W2) (h0 : I [] w)
    (hround : ∀ (l : Nat) (pre : List α) (x : α) (W : World), w.heap.size < l → I pre W → pre ++ [x] <+: xs →
      assign.wpIn (Fence.wide.inRound l) 0 P (Exit.then (fun a' W' => ND w.heap.size W W' ∧ ∀ W2, Grow w.heap.size W' W2 → body.wpIn (Fence.wide.inRound l) 0 P (roundQ w.heap.size I Ix (pre ++ [x]) W2) a' W2) (fun _ _ _ => False))
        { tmps := (ps.zip (encs x)).foldl (fun t (p, v) => t.setIfInBounds p v) a.tmps, defers := [] } W)
    (hdone : ∀ (D : Nat) (W : World), w.heap.size ≤ D → I xs W → W.heap[D]? = some (.deferred (some [])) → Q .normal { a with defers := { target := .collected D, args := #[] } :: a.defers } W)
    (hstop : ∀ (D : Nat) (c : Code) (pre : List α) (W : World), w.heap.size ≤ D → pre <+: xs → Ix c pre W → W.heap[D]? = some (.deferred (some [])) → c.wpIn Fence.wide 0 P Q { a with defers := { target := .collected D, args := #[] } :: a.defers } W) :
    (Code.rangeFunc g ps assign body).wpIn Fence.wide 0 P Q a w := by
  refine wpIn_rangeFunc ?_
  intro fn hfn
  obtain ⟨rec, hrec⟩ : ∃ rec : LoopState → Option Code → Loop, rec = fun st pe => { state := st, pending := pe, fn, tmps := a.tmps, params := ps, assign, body, defers := w.heap.size } := ⟨_, rfl⟩
  obtain ⟨W1, hW1⟩ : ∃ W1, (w.alloc (.deferred (some []))).alloc (.loop (rec .ready none)) = W1 := ⟨_, rfl⟩
  have hsz : W1.heap.size = w.heap.size + 2 := by rw [← hW1]; simp
  have hL1 : W1.heap[w.heap.size + 1]? = some (.loop (rec .ready none)) := by
    rw [← hW1]; have := World.alloc_heap_new (w.alloc (.deferred (some []))) (.loop (rec .ready none)); rwa [World.size_alloc] at this
  have hK1 : W1.heap[w.heap.size]? = some (.deferred (some [])) := by
    rw [← hW1]; exact (Below.heap_alloc _ _ _ (by simp)).trans (World.alloc_heap_new w _)
  have hI1 : I [] W1 := by rw [← hW1]; exact hI _ _ _ h0 ((grow_alloc _ _ _).trans (grow_alloc _ _ _))
  refine ⟨w.heap.size + 1, [{ target := .collected w.heap.size, args := #[] }], W1, { target := .fn (.func gf) lb, args := #[.func (.yield (w.heap.size + 1)) #[] #[]] }, W1, gf,
    #[.func (.yield (w.heap.size + 1)) #[] #[]] ++ lb, W1, ?_, ?_, ?_, ?_, fun h => (by cases h), ?_⟩
  · rw [← hW1, hrec]; exact run_enterLoop_outer _ _ _ _ _
  · simp only [resolve, hg]
    simp [go_sem]
  · intro f' hf'; trivial
  · simp [invoke, go_sem, eg]
  · refine (hit (w.heap.size + 1)
      (fun pre W => I pre W ∧ W.heap[w.heap.size + 1]? = some (.loop (rec .ready none)) ∧ W.heap[w.heap.size]? = some (.deferred (some [])))
      (fun pre W => ∃ c, Ix c pre W ∧ W.heap[w.heap.size + 1]? = some (.loop (rec .done (some c))) ∧ W.heap[w.heap.size]? = some (.deferred (some [])))
      W1 (by omega) (fun pre W h => hK _ _ h.1)
      (fun pre A B h hg => ⟨hI _ _ _ h.1 (hg.mono (by omega)), (hg.low _ (by omega) (heap_lt h.2.1)).trans h.2.1, (hg.low _ (by omega) (heap_lt h.2.2)).trans h.2.2⟩)
      (fun pre A B h hg => by
        obtain ⟨c, hc, hl, hk⟩ := h
        exact ⟨c, hIx _ _ _ _ hc (hg.mono (by omega)), (hg.low _ (by omega) (heap_lt hl)).trans hl, (hg.low _ (by omega) (heap_lt hk)).trans hk⟩)
      ⟨hI1, hL1, hK1⟩ ?_).mono ?_
    · rintro pre x W ⟨hi, hl, hk⟩ hpre
      have hy := run_yield (P := P) (args := encs x) hl (by rw [hrec]; exact hps x)
      rw [hrec] at hy
      refine ⟨fn, _, assign, body, hy, (round_law (B := w.heap.size) rec hrec (by omega) hl (fun W => W.heap[w.heap.size]? = some (.deferred (some []))) (fun _ _ h hn => hn.nd _ _ (Nat.le_refl _) h rfl) (fun _ _ h => (World.putObj_heap_other (by omega)).trans h) hk I Ix hI hIx (hround _ pre x W (by omega) hi hpre)).mono ?_⟩
      rintro e W3 ⟨hnd, h⟩
      refine ⟨hnd, ?_⟩
      rcases h with ⟨rfl, h1, h2, h3⟩ | ⟨rfl, c, h1, h2, h3⟩
      · exact .inl ⟨rfl, h1, h2, h3⟩
      · exact .inr ⟨rfl, c, h1, h2, h3⟩
    · rintro e W2 ⟨⟨v, rfl⟩, hnd, (⟨hi, hl, hk⟩ | ⟨pre, hpre, c, hi, hl, hk⟩)⟩
      · exact ⟨none, _, by have := run_endLoop (P := P) hl (by rw [hrec]; simp); rw [hrec] at this; exact this, hdone _ _ (Nat.le_refl _) (hI _ _ _ hi (grow_putObj _ (by omega) hl rfl)) ((World.putObj_heap_other (by omega)).trans hk)⟩
      · exact ⟨some c, _, by have := run_endLoop (P := P) hl (by rw [hrec]; simp); rw [hrec] at this; exact this, hstop _ c pre _ (Nat.le_refl _) hpre (hIx _ _ _ _ hi (grow_putObj _ (by omega) hl rfl)) ((World.putObj_heap_other (by omega)).trans hk)⟩

/-- RANGING OVER A FUNCTION, within a round of another such loop. -/
theorem range_law_in {α : Type} {P : Program} {g : Operand} {ps : Array Tmp} {assign body : Code} {Q : Exit → Act → World → Prop} {a : Act} {w : World} {l₀ : Nat} {r₀ : Loop}
    (hr0 : w.heap[l₀]? = some (.loop r₀))
    {gf : Nat} {lb : Array Value} (hg : a.eval g = .func (.func gf) #[] lb) (eg : ∀ args w, (callFunc gf args).run P w = .ok (.enter gf args) w)
    {encs : α → Array Value} {xs : List α} {K : World → Prop} (hit : IterSpec P gf lb encs xs K) (hps : ∀ x, (encs x).size = ps.size)
    (I : List α → World → Prop) (Ix : Code → List α → World → Prop) (hK : ∀ pre W, I pre W → K W)
    (hI : ∀ pre W1 W2, I pre W1 → Grow w.heap.size W1 W2 → I pre W2) (hIx : ∀ c pre W1 W2, Ix c pre W1 → Grow w.heap.size W1 W2 → Ix c pre W2) (h0 : I [] w)
    (hround : ∀ (l : Nat) (pre : List α) (x : α) (W : World), w.heap.size ≤ l → I pre W → pre ++ [x] <+: xs →
      assign.wpIn (Fence.wide.inRound l) 0 P (Exit.then (fun a' W' => ND w.heap.size W W' ∧ ∀ W2, Grow w.heap.size W' W2 → body.wpIn (Fence.wide.inRound l) 0 P (roundQ w.heap.size I Ix (pre ++ [x]) W2) a' W2) (fun _ _ _ => False))
        { tmps := (ps.zip (encs x)).foldl (fun t (p, v) => t.setIfInBounds p v) a.tmps, defers := [] } W)
    (hdone : ∀ (W : World), I xs W → Q .normal a W)
    (hstop : ∀ (c : Code) (pre : List α) (W : World), pre <+: xs → Ix c pre W → c.wpIn (Fence.wide.inRound l₀) 0 P Q a W) :
    (Code.rangeFunc g ps assign body).wpIn (Fence.wide.inRound l₀) 0 P Q a w := by
  refine wpIn_rangeFunc ?_
  intro fn hfn
  obtain ⟨rec, hrec⟩ : ∃ rec : LoopState → Option Code → Loop, rec = fun st pe => { state := st, pending := pe, fn, tmps := a.tmps, params := ps, assign, body, defers := r₀.defers } := ⟨_, rfl⟩
  obtain ⟨W1, hW1⟩ : ∃ W1, w.alloc (.loop (rec .ready none)) = W1 := ⟨_, rfl⟩
  have hsz : W1.heap.size = w.heap.size + 1 := by rw [← hW1]; simp
  have hL1 : W1.heap[w.heap.size]? = some (.loop (rec .ready none)) := by rw [← hW1]; exact World.alloc_heap_new w _
  have hI1 : I [] W1 := by rw [← hW1]; exact hI _ _ _ h0 (grow_alloc _ _ _)
  refine ⟨w.heap.size, [], W1, { target := .fn (.func gf) lb, args := #[.func (.yield w.heap.size) #[] #[]] }, W1, gf,
    #[.func (.yield w.heap.size) #[] #[]] ++ lb, W1, ?_, ?_, ?_, ?_, fun h => (by cases h), ?_⟩
  · rw [← hW1, hrec]; exact run_enterLoop_inner hr0 _ _ _ _ _
  · simp only [resolve, hg]
    simp [go_sem]
  · intro f' hf'; trivial
  · simp [invoke, go_sem, eg]
  · refine CallsIn.inRound l₀ ((hit w.heap.size
      (fun pre W => I pre W ∧ W.heap[w.heap.size]? = some (.loop (rec .ready none)))
      (fun pre W => ∃ c, Ix c pre W ∧ W.heap[w.heap.size]? = some (.loop (rec .done (some c))))
      W1 (by omega) (fun pre W h => hK _ _ h.1)
      (fun pre A B h hg => ⟨hI _ _ _ h.1 (hg.mono (by omega)), (hg.low _ (by omega) (heap_lt h.2)).trans h.2⟩)
      (fun pre A B h hg => by
        obtain ⟨c, hc, hl⟩ := h
        exact ⟨c, hIx _ _ _ _ hc (hg.mono (by omega)), (hg.low _ (by omega) (heap_lt hl)).trans hl⟩)
      ⟨hI1, hL1⟩ ?_).mono ?_)
    · rintro pre x W ⟨hi, hl⟩ hpre
      have hy := run_yield (P := P) (args := encs x) hl (by rw [hrec]; exact hps x)
      rw [hrec] at hy
      refine ⟨fn, _, assign, body, hy, (round_law (B := w.heap.size) rec hrec (Nat.le_refl _) hl (fun _ => True) (fun _ _ _ _ => trivial) (fun _ _ _ => trivial) trivial I Ix hI hIx (hround _ pre x W (Nat.le_refl _) hi hpre)).mono ?_⟩
      rintro e W3 ⟨hnd, h⟩
      refine ⟨hnd, ?_⟩
      rcases h with ⟨rfl, h1, h2, _⟩ | ⟨rfl, c, h1, h2, _⟩
      · exact .inl ⟨rfl, h1, h2⟩
      · exact .inr ⟨rfl, c, h1, h2⟩
    · rintro e W2 ⟨⟨v, rfl⟩, hnd, (⟨hi, hl⟩ | ⟨pre, hpre, c, hi, hl⟩)⟩
      · exact ⟨none, _, by have := run_endLoop (P := P) hl (by rw [hrec]; simp); rw [hrec] at this; exact this, hdone _ (hI _ _ _ hi (grow_putObj _ (Nat.le_refl _) hl rfl))⟩
      · exact ⟨some c, _, by have := run_endLoop (P := P) hl (by rw [hrec]; simp); rw [hrec] at this; exact this, hstop c pre _ hpre (hIx _ _ _ _ hi (grow_putObj _ (Nat.le_refl _) hl rfl))⟩

/-! ### A function that has ranged over a function leaves -/
section
variable {P : Program} {fn : Func} {R : Ending → World → Prop} {tmps : Array Value} {W : World} {D t u : Nat}
theorem shut_mark (hk : W.heap[D]? = some (.deferred (some []))) : Grow D W (W.putObj D (.deferred none)) := grow_putObj _ (Nat.le_refl _) hk rfl
theorem leave1 (hr : fn.results = #[.tmp t]) (hk : W.heap[D]? = some (.deferred (some []))) (h : ∀ W', Grow D W W' → R (.returned (tmps.getD t undef)) W') :
    bodyPostM Fence.wide 0 P fn R .ret { tmps, defers := [{ target := .collected D, args := #[] }] } W :=
  ⟨by simp, .inl ⟨_, _, rfl, run_takeDeferred hk, ⟨_, results_tmp hr _ _ _, h _ (shut_mark hk)⟩⟩⟩
theorem leave2 (hr : fn.results = #[.tmp t, .tmp u]) (hk : W.heap[D]? = some (.deferred (some []))) (h : ∀ W', Grow D W W' → R (.returned (.tuple #[tmps.getD t undef, tmps.getD u undef])) W') :
    bodyPostM Fence.wide 0 P fn R .ret { tmps, defers := [{ target := .collected D, args := #[] }] } W :=
  ⟨by simp, .inl ⟨_, _, rfl, run_takeDeferred hk, ⟨_, results_tmp2 hr _ _ _, h _ (shut_mark hk)⟩⟩⟩
theorem leave0 (hr : fn.results = #[]) (hk : W.heap[D]? = some (.deferred (some []))) (h : ∀ W', Grow D W W' → R (.returned (.tuple #[])) W') :
    bodyPostM Fence.wide 0 P fn R .ret { tmps, defers := [{ target := .collected D, args := #[] }] } W :=
  ⟨by simp, .inl ⟨_, _, rfl, run_takeDeferred hk, ⟨_, results_none hr _ _ _, h _ (shut_mark hk)⟩⟩⟩
theorem leave0n (hr : fn.results = #[]) (hk : W.heap[D]? = some (.deferred (some []))) (h : ∀ W', Grow D W W' → R (.returned (.tuple #[])) W') :
    bodyPostM Fence.wide 0 P fn R .normal { tmps, defers := [{ target := .collected D, args := #[] }] } W :=
  ⟨by simp, .inl ⟨_, _, rfl, run_takeDeferred hk, ⟨_, results_none hr _ _ _, h _ (shut_mark hk)⟩⟩⟩
end
end Go.Proofs.YtdcjfpjpboafnaaDoor
