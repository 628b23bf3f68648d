/- What a kind needs: the program's table, a literal, looked up. -/
import Derived.Test.YtjijoghbcbdohaaCyBits
import Derived.Test.YtjijoghbcbdohaaMaps
import Derived.Test.YtjijoghbcbdohaaOf
namespace Go.Proofs.Ytjijoghbcbdohaa
set_option linter.all false
open Go.RowKit
set_option maxRecDepth 100000

/-- A need, as a value. -/
def needV (a b c d : Int) : Value := .agg #[.int .i64 a, .int .i64 b, .int .i64 c, .int .i64 d]
abbrev manyI : Int := 4611686018427387904
def needM : Int → Option Value :=
  upd (upd (upd (upd (fun _ => none) 6 (some (needV 1 0 0 manyI))) 9 (some (needV 3 2 1 manyI))) 10 (some (needV 7 4 1 1))) 11 (some (needV 7 4 1 manyI))
theorem intK : KeyEnc Try.prog 3 (fun a : Int => .int .i64 a) (fun a => .int .i64 a) (fun a => (Lit.int .i64 a).wf = true) := intKey rfl
theorem zero_need (w : World) : (zeroValue 40).run Try.prog w = .ok (needV 0 0 0 0) w := by rfl
/-- A need's value. -/
def mostN (n : Need) : Int := if n.one then 1 else manyI
def nV (n : Need) : Value := needV n.may n.counts n.least (mostN n)
def zN : Need := ⟨0, 0, 0, false⟩
theorem needM_K (kind : Int) : (∃ a b c d, (needM kind).getD (needV 0 0 0 0) = needV a b c d) ∧ ((needM kind).isSome = (needK kind).isSome) ∧ ∀ n, needK kind = some n → (needM kind).getD (needV 0 0 0 0) = nV n := by
  unfold needM needK upd
  by_cases h6 : kind = 6
  · subst h6; exact ⟨⟨_, _, _, _, rfl⟩, rfl, fun n hn => by cases hn; rfl⟩
  · by_cases h9 : kind = 9
    · subst h9; exact ⟨⟨_, _, _, _, rfl⟩, rfl, fun n hn => by cases hn; rfl⟩
    · by_cases h10 : kind = 10
      · subst h10; exact ⟨⟨_, _, _, _, rfl⟩, rfl, fun n hn => by cases hn; rfl⟩
      · by_cases h11 : kind = 11
        · subst h11; exact ⟨⟨_, _, _, _, rfl⟩, rfl, fun n hn => by cases hn; rfl⟩
        · rw [if_neg h6, if_neg h9, if_neg h10, if_neg h11, if_neg h6, if_neg h9, if_neg h10, if_neg h11]
          exact ⟨⟨_, _, _, _, rfl⟩, rfl, fun n hn => by cases hn⟩
/-- What is told: a need, and whether there is one. -/
def NeedPost (W : World) (kind : Int) (v : Value) (w' : World) : Prop :=
  Fr0 W w' ∧ ∃ a b c d, v = .tuple #[needV a b c d, .bool (needK kind).isSome] ∧ ∀ n, needK kind = some n → needV a b c d = nV n
set_option maxHeartbeats 4000000 in
theorem Needs_is {W : World} {kind : Int} (hk : (Lit.int .i64 kind).wf = true) :
    Calls Try.prog 28 #[.int .i64 kind] W (Rets (NeedPost W kind)) := by
  have hmm := @run_makeMap Try.prog
  have hf1 : Fr0 W (W.alloc (.cells #[.int .i64 0, .int .i64 0, .int .i64 0, .int .i64 0] 40)) := fr_alloc _ _ _
  have hb1 : (W.alloc (.cells #[.int .i64 0, .int .i64 0, .int .i64 0, .int .i64 0] 40)).heap[W.heap.size]? = some (.cells #[.int .i64 0, .int .i64 0, .int .i64 0, .int .i64 0] 40) := World.alloc_heap_new W _
  have hm := MapIs.made (W.alloc (.cells #[.int .i64 0, .int .i64 0, .int .i64 0, .int .i64 0] 40)) Try.prog 3 (fun a : Int => Lit.int .i64 a) (fun a => (Lit.int .i64 a).wf = true)
  rw [World.size_alloc] at hm
  obtain ⟨w2, r2, m2, f2⟩ := hm.store intK Try.underlying53 (by decide) (x := (6 : Int)) (by decide) (needV 1 0 0 manyI)
  obtain ⟨w3, r3, m3, f3⟩ := m2.store intK Try.underlying53 (by decide) (x := (9 : Int)) (by decide) (needV 3 2 1 manyI)
  obtain ⟨w4, r4, m4, f4⟩ := m3.store intK Try.underlying53 (by decide) (x := (10 : Int)) (by decide) (needV 7 4 1 1)
  obtain ⟨w5, r5, m5, f5⟩ := m4.store intK Try.underlying53 (by decide) (x := (11 : Int)) (by decide) (needV 7 4 1 manyI)
  have hlk : (Instr.lookup 53 (.map (some (W.heap.size + 1))) (.int .i64 kind) true).run Try.prog w5 = .ok (.tuple #[(needM kind).getD (needV 0 0 0 0), .bool (needM kind).isSome]) w5 := m5.look_ok intK Try.underlying53 (zero_need w5) hk
  have hF : Fr (fun k => k = W.heap.size + 1) (W.alloc (.cells #[.int .i64 0, .int .i64 0, .int .i64 0, .int .i64 0] 40)) w5 := ((((fr_alloc (fun k => k = W.heap.size + 1) _ _).trans f2 (fun _ _ h => h)).trans f3 (fun _ _ h => h)).trans f4 (fun _ _ h => h)).trans f5 (fun _ _ h => h)
  have hb5 := hF.heap hb1 (by omega)
  clear m2 m3 m4 m5 hm f2 f3 f4 f5
  obtain ⟨⟨a, b, c, d, hv⟩, hs, hn⟩ := needM_K kind
  rw [hv, hs] at hlk
  rw [hv] at hn
  have h6 : (w5.alloc (.cells #[.int .i64 a, .int .i64 b, .int .i64 c, .int .i64 d] 40)).heap[W.heap.size]? = some (.cells #[.int .i64 0, .int .i64 0, .int .i64 0, .int .i64 0] 40) := (fr_alloc (fun _ => False) w5 _).heap hb5 (fun x => x)
  have k0 : (w5.alloc (.cells #[.int .i64 a, .int .i64 b, .int .i64 c, .int .i64 d] 40)).cell? ⟨W.heap.size, 0, none⟩ = some (.int .i64 0) := by simp [World.cell?, h6]
  have k1 : (w5.alloc (.cells #[.int .i64 a, .int .i64 b, .int .i64 c, .int .i64 d] 40)).cell? ⟨W.heap.size, 1, none⟩ = some (.int .i64 0) := by simp [World.cell?, h6]
  have k2 : (w5.alloc (.cells #[.int .i64 a, .int .i64 b, .int .i64 c, .int .i64 d] 40)).cell? ⟨W.heap.size, 2, none⟩ = some (.int .i64 0) := by simp [World.cell?, h6]
  have k3 : (w5.alloc (.cells #[.int .i64 a, .int .i64 b, .int .i64 c, .int .i64 d] 40)).cell? ⟨W.heap.size, 3, none⟩ = some (.int .i64 0) := by simp [World.cell?, h6]
  have fz : ∀ o, (w5.alloc (.cells #[.int .i64 a, .int .i64 b, .int .i64 c, .int .i64 d] 40)).frozen? ⟨W.heap.size, o, none⟩ = false := fun o => by simp [World.frozen?, h6]
  have fz0 := fz 0
  have fz1 := fz 1
  have fz2 := fz 2
  have fz3 := fz 3
  clear fz
  have HN := Lib.hid hn
  have HF := Lib.hid hF
  clear hn hv hs hF hb1
  unfold needV at r2 r3 r4 r5 hlk
  go_enter Try.func28, Try.ntmps28
  go_wp2_with fail
  (try simp only [Exit.inBlock, Exit.then])
  refine bodyPost_ret (v := .tuple #[needV a b c d, .bool (needK kind).isSome]) ?_ rfl ?_
  · simp only [results, show Try.f28.results = #[ResultVar.cell 2 40, ResultVar.tmp 3] from rfl]
    unfold needV
    go_simp
  · refine ⟨_, rfl, ?_, a, b, c, d, rfl, HN.out⟩
    have hsz := hf1.size
    have F1 := (hf1.trans (HF.out) (T := fun k => k = W.heap.size + 1) (fun j hj e => absurd e (by omega)))
    refine ((((F1.alloc _).trans (fr_setCell (S := fun k => k = W.heap.size) _ _ _ (fun _ => rfl)) ?_).trans (fr_setCell (S := fun k => k = W.heap.size) _ _ _ (fun _ => rfl)) ?_).trans (fr_setCell (S := fun k => k = W.heap.size) _ _ _ (fun _ => rfl)) ?_).trans (fr_setCell (S := fun k => k = W.heap.size) _ _ _ (fun _ => rfl)) ?_
    all_goals (intro j hj e; exact absurd e (by omega))
end Go.Proofs.Ytjijoghbcbdohaa
