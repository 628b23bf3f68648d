/- DeqA, DeqB, DeqC, DeqD, in one text. -/
import Derived.Test.YtdcjfpjpboafnaaDoorRefNew
import Derived.Test.YtdcjfpjpboafnaaDoorMasks
import Derived.BigRegionIn
import Derived.RegionIn
import Derived.Test.YtdcjfpjpboafnaaDoorRefA
import Derived.Laws.CopyOwn
import Derived.Deep.RegionHeldLaw
namespace Go.Proofs.YtdcjfpjpboafnaaDoor
set_option linter.all false
open Go.RowKit
set_option maxRecDepth 100000

section
variable {W W' : World} {B q N top : Nat} {A : Option Addr} {vs l : List Int}
end
end Go.Proofs.YtdcjfpjpboafnaaDoor
namespace Go.Proofs.YtdcjfpjpboafnaaDoor
set_option linter.all false
open Go.RowKit Go.Shelf
attribute [local go_sem] Oper.semAt_some
set_option maxRecDepth 100000

abbrev encI : Int → Array Value := fun x => #[.int .i64 x]
theorem yield_any {α : Type} {l : Nat} {pre : List α} {x : α} {J Jx : List α → World → Prop} {W1 W2 : World} {e : Ending} (h : RdPost l pre x J Jx W1 e W2) :
    ∃ b, e = .returned (.bool b) ∧ ND (l + 1) W1 W2 ∧ ((b = true ∧ J (pre ++ [x]) W2) ∨ (b = false ∧ Jx (pre ++ [x]) W2)) := by
  obtain ⟨h1, ⟨rfl, h2⟩ | ⟨rfl, h2⟩⟩ := h
  · exact ⟨true, rfl, h1, .inl ⟨rfl, h2⟩⟩
  · exact ⟨false, rfl, h1, .inr ⟨rfl, h2⟩⟩
end Go.Proofs.YtdcjfpjpboafnaaDoor
namespace Go.Proofs.YtdcjfpjpboafnaaDoor
set_option linter.all false
open Go.RowKit
set_option maxRecDepth 100000

theorem fr_setRow {w : World} {g t : Nat} {cs : Array Value} {f : Nat × Nat} (h : w.heap[g]? = some (.cells cs t f)) (cs' : Array Value) : Fr (fun k => k = g) w (w.setRow g cs') := by
  refine ⟨rfl, rfl, rfl, by simp [World.setRow], fun k hk hn => setRow_other w g k cs' hn, fun k o ho hd => ?_⟩
  by_cases e : k = g
  · subst e; rw [h] at ho; cases ho; cases hd
  · rw [setRow_other w g k cs' e]; exact ho
section
variable {ops : Array Oper} {rest : List Oper} {o : Oper} {a : Act} {w : World} {Q : Exit → Act → World → Prop}
theorem wpList_copy_ints (hgd : o.guard = none) (d s : Operand) (ho : o.op = .call { callee := .builtin .copy, args := #[d, s], argTypes := #[33, 33] })
    {g n c : Nat} {A : Option Addr} {zs ys : List Int} (hd : a.eval d = .slice (some ⟨g, 0, none⟩) n n) (hs : a.eval s = .slice A ys.length c) (hg : IntRow w g zs) (hzl : zs.length = n) (hle : ys.length ≤ n) (hy : IntsAt w A ys)
    (h : ∀ w', IntRow w' g (ys ++ zs.drop ys.length) → Fr (fun k => k = g) w w' → wpList Tryd.prog ops Q rest (a.put o.dst (goInt ys.length)) w') : wpList Tryd.prog ops Q (o :: rest) a w := by
  have hsz : (Tryd.prog.info? 3).map (·.size) = some 1 := by
    have := info_int
    cases hh : Tryd.prog.info? 3 with
    | none => rw [hh] at this; cases this
    | some i => rw [hh] at this; simp at this ⊢; exact this.2.1
  by_cases h0 : ys = []
  · subst h0
    exact wpList_copy_nothing hgd d s _ _ ho 3 Tryd.underlying33 hsz _ _ _ _ _ _ hd hs (by simp) (h w (by simpa using hg) (Fr.refl _ _))
  · obtain ⟨b, o', rfl⟩ : ∃ b o, A = some ⟨b, o, none⟩ := by
      rcases hy.2 with e | ⟨b, o, e, _⟩
      · exact absurd e h0
      · exact ⟨b, o, e⟩
    have e : (intsI ys).length = ys.length := by simp [intsI]
    have e2 : ((intsI zs).toArray.toList.take 0 ++ (intsI ys ++ (intsI zs).toArray.toList.drop (0 + (intsI ys).length))).toArray = (intsI (ys ++ zs.drop ys.length)).toArray := by
      simp [intsI]
    refine wpList_copy_own hgd d s _ _ ho 3 Tryd.underlying33 hsz g 0 n n ⟨b, o', none⟩ ys.length c hd hs (intsI zs).toArray 3 hg (intsI ys) (by rw [e]; exact (Nat.min_eq_left hle).symm) (ints_news hy) (by simp [intsI]; omega) (intsI_one ys) ?_
    rw [e2, e]
    exact h _ (setRow_heap w g _ _ _ _ hg) (fr_setRow hg _)
end
theorem make_ints2 (c : Nat) (h1 : c ≤ 1000000000) (w : World) : (Instr.makeSlice 33 (.int .i64 c) (.int .i64 c)).run Tryd.prog w =
    .ok (.slice (some ⟨w.heap.size, 0, none⟩) c c) (w.alloc (.cells (intsI (List.replicate c 0)).toArray 3)) := by
  obtain ⟨i0, hi, hz0, hz1, hz2⟩ := info_parts info_int2
  rw [run_make (P := Tryd.prog) w 33 3 i0 (.int .i64 0) Tryd.underlying33 hi hz0 .i64 .i64 c c (by omega) (Int.le_refl _) (by rw [hz2]; omega) (by omega), hz1]
  have : madeCells (Value.int .i64 0).cells ((c : Int).toNat * 1) = (intsI (List.replicate c 0)).toArray := by
    apply Array.ext'
    simp only [madeCells, intsI, Value.cells, Nat.mul_one]
    apply List.ext_getElem
    · simp
    · intro i h1 h2
      simp [Nat.mod_one]
  rw [this]
  simp
/-- The blocks of a ring. -/
def DqS (q : Nat) (A : Option Addr) (k : Nat) : Prop := k = q ∨ A = some ⟨k, 0, none⟩
end Go.Proofs.YtdcjfpjpboafnaaDoor
namespace Go.Proofs.YtdcjfpjpboafnaaDoor
set_option linter.all false
open Go.RowKit
set_option maxRecDepth 100000

theorem mod_apart {t a b N : Nat} (hab : a < b) (hb : b < N) : (t + a) % N ≠ (t + b) % N := by
  intro e
  have h1 := Nat.div_add_mod (t + a) N
  have h2 := Nat.div_add_mod (t + b) N
  rw [e] at h1
  have h3 : N * ((t + b) / N) = N * ((t + a) / N) + (b - a) := by omega
  have h4 : (t + a) / N ≤ (t + b) / N := Nat.div_le_div_right (by omega)
  rcases Nat.lt_or_ge ((t + a) / N) ((t + b) / N) with h | h
  · have : N * ((t + a) / N + 1) ≤ N * ((t + b) / N) := Nat.mul_le_mul_left _ h
    rw [Nat.mul_add, Nat.mul_one] at this
    omega
  · have : (t + a) / N = (t + b) / N := by omega
    rw [this] at h3
    omega
end Go.Proofs.YtdcjfpjpboafnaaDoor
