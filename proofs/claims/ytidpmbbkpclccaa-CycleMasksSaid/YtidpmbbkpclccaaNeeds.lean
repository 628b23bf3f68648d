/- Needs, Can, in one text. -/
import Derived.Test.YtidpmbbkpclccaaCyBits
import Derived.Test.YtidpmbbkpclccaaMaps
import Derived.Test.YtidpmbbkpclccaaOf
namespace Go.Proofs.Ytidpmbbkpclccaa
set_option linter.all false
open Go.RowKit
set_option maxRecDepth 100000

/-- A need, as a value. -/
def needV (a b c d : Int) : Value := .agg #[.int .i64 a, .int .i64 b, .int .i64 c, .int .i64 d]
abbrev manyI : Int := 4611686018427387904
def needM : Int → Option Value :=
  upd (upd (upd (upd (fun _ => none) 6 (some (needV 1 0 0 manyI))) 9 (some (needV 3 2 1 manyI))) 10 (some (needV 7 4 1 1))) 11 (some (needV 7 4 1 manyI))
theorem intK : KeyEnc Try.prog 3 (fun a : Int => .int .i64 a) (fun a => .int .i64 a) (fun a => (Lit.int .i64 a).wf = true) := intKey rfl
theorem zero_need (w : World) : (zeroValue 58).run Try.prog w = .ok (needV 0 0 0 0) w := by rfl
/-- A need's value. -/
def mostN (n : Need) : Int := if n.one then 1 else manyI
def nV (n : Need) : Value := needV n.may n.counts n.least (mostN n)
def zN : Need := ⟨0, 0, 0, false⟩
theorem needM_K (kind : Int) : (∃ a b c d, (needM kind).getD (needV 0 0 0 0) = needV a b c d) ∧ ((needM kind).isSome = (needK kind).isSome) ∧ ∀ n, needK kind = some n → (needM kind).getD (needV 0 0 0 0) = nV n := by
  unfold needM needK upd
  by_cases h6 : kind = 6
  · subst h6; exact ⟨⟨_, _, _, _, rfl⟩, rfl, fun n hn => by cases hn; rfl⟩
  · by_cases h9 : kind = 9
    · subst h9; exact ⟨⟨_, _, _, _, rfl⟩, rfl, fun n hn => by cases hn; rfl⟩
    · by_cases h10 : kind = 10
      · subst h10; exact ⟨⟨_, _, _, _, rfl⟩, rfl, fun n hn => by cases hn; rfl⟩
      · by_cases h11 : kind = 11
        · subst h11; exact ⟨⟨_, _, _, _, rfl⟩, rfl, fun n hn => by cases hn; rfl⟩
        · rw [if_neg h6, if_neg h9, if_neg h10, if_neg h11, if_neg h6, if_neg h9, if_neg h10, if_neg h11]
          exact ⟨⟨_, _, _, _, rfl⟩, rfl, fun n hn => by cases hn⟩
/-- What is told: a need, and whether there is one. -/
def NeedPost (W : World) (kind : Int) (v : Value) (w' : World) : Prop :=
  Fr0 W w' ∧ ∃ a b c d, v = .tuple #[needV a b c d, .bool (needK kind).isSome] ∧ ∀ n, needK kind = some n → needV a b c d = nV n
set_option maxHeartbeats 4000000 in
theorem Needs_is {W : World} {kind : Int} (hk : (Lit.int .i64 kind).wf = true) :
    Calls Try.prog 22 #[.int .i64 kind] W (Rets (NeedPost W kind)) := by
  have hmm := @run_makeMap Try.prog
  have hf1 : Fr0 W (W.alloc (.cells #[.int .i64 0, .int .i64 0, .int .i64 0, .int .i64 0] 58)) := fr_alloc _ _ _
  have hb1 : (W.alloc (.cells #[.int .i64 0, .int .i64 0, .int .i64 0, .int .i64 0] 58)).heap[W.heap.size]? = some (.cells #[.int .i64 0, .int .i64 0, .int .i64 0, .int .i64 0] 58) := World.alloc_heap_new W _
  have hm := MapIs.made (W.alloc (.cells #[.int .i64 0, .int .i64 0, .int .i64 0, .int .i64 0] 58)) Try.prog 3 (fun a : Int => Lit.int .i64 a) (fun a => (Lit.int .i64 a).wf = true)
  rw [World.size_alloc] at hm
  obtain ⟨w2, r2, m2, f2⟩ := hm.store intK Try.underlying80 (by decide) (x := (6 : Int)) (by decide) (needV 1 0 0 manyI)
  obtain ⟨w3, r3, m3, f3⟩ := m2.store intK Try.underlying80 (by decide) (x := (9 : Int)) (by decide) (needV 3 2 1 manyI)
  obtain ⟨w4, r4, m4, f4⟩ := m3.store intK Try.underlying80 (by decide) (x := (10 : Int)) (by decide) (needV 7 4 1 1)
  obtain ⟨w5, r5, m5, f5⟩ := m4.store intK Try.underlying80 (by decide) (x := (11 : Int)) (by decide) (needV 7 4 1 manyI)
  have hlk : (Instr.lookup 80 (.map (some (W.heap.size + 1))) (.int .i64 kind) true).run Try.prog w5 = .ok (.tuple #[(needM kind).getD (needV 0 0 0 0), .bool (needM kind).isSome]) w5 := m5.look_ok intK Try.underlying80 (zero_need w5) hk
  have hF : Fr (fun k => k = W.heap.size + 1) (W.alloc (.cells #[.int .i64 0, .int .i64 0, .int .i64 0, .int .i64 0] 58)) w5 := ((((fr_alloc (fun k => k = W.heap.size + 1) _ _).trans f2 (fun _ _ h => h)).trans f3 (fun _ _ h => h)).trans f4 (fun _ _ h => h)).trans f5 (fun _ _ h => h)
  have hb5 := hF.heap hb1 (by omega)
  clear m2 m3 m4 m5 hm f2 f3 f4 f5
  obtain ⟨⟨a, b, c, d, hv⟩, hs, hn⟩ := needM_K kind
  rw [hv, hs] at hlk
  rw [hv] at hn
  have h6 : (w5.alloc (.cells #[.int .i64 a, .int .i64 b, .int .i64 c, .int .i64 d] 58)).heap[W.heap.size]? = some (.cells #[.int .i64 0, .int .i64 0, .int .i64 0, .int .i64 0] 58) := (fr_alloc (fun _ => False) w5 _).heap hb5 (fun x => x)
  have k0 : (w5.alloc (.cells #[.int .i64 a, .int .i64 b, .int .i64 c, .int .i64 d] 58)).cell? ⟨W.heap.size, 0, none⟩ = some (.int .i64 0) := by simp [World.cell?, h6]
  have k1 : (w5.alloc (.cells #[.int .i64 a, .int .i64 b, .int .i64 c, .int .i64 d] 58)).cell? ⟨W.heap.size, 1, none⟩ = some (.int .i64 0) := by simp [World.cell?, h6]
  have k2 : (w5.alloc (.cells #[.int .i64 a, .int .i64 b, .int .i64 c, .int .i64 d] 58)).cell? ⟨W.heap.size, 2, none⟩ = some (.int .i64 0) := by simp [World.cell?, h6]
  have k3 : (w5.alloc (.cells #[.int .i64 a, .int .i64 b, .int .i64 c, .int .i64 d] 58)).cell? ⟨W.heap.size, 3, none⟩ = some (.int .i64 0) := by simp [World.cell?, h6]
  have fz : ∀ o, (w5.alloc (.cells #[.int .i64 a, .int .i64 b, .int .i64 c, .int .i64 d] 58)).frozen? ⟨W.heap.size, o, none⟩ = false := fun o => by simp [World.frozen?, h6]
  have fz0 := fz 0
  have fz1 := fz 1
  have fz2 := fz 2
  have fz3 := fz 3
  clear fz
  have HN := Lib.hid hn
  have HF := Lib.hid hF
  clear hn hv hs hF hb1
  unfold needV at r2 r3 r4 r5 hlk
  go_enter Try.func22, Try.ntmps22
  go_wp2_with fail
  (try simp only [Exit.inBlock, Exit.then])
  refine bodyPost_ret (v := .tuple #[needV a b c d, .bool (needK kind).isSome]) ?_ rfl ?_
  · simp only [results, show Try.f22.results = #[ResultVar.cell 2 58, ResultVar.tmp 3] from rfl]
    unfold needV
    go_simp
  · refine ⟨_, rfl, ?_, a, b, c, d, rfl, HN.out⟩
    have hsz := hf1.size
    have F1 := (hf1.trans (HF.out) (T := fun k => k = W.heap.size + 1) (fun j hj e => absurd e (by omega)))
    refine ((((F1.alloc _).trans (fr_setCell (S := fun k => k = W.heap.size) _ _ _ (fun _ => rfl)) ?_).trans (fr_setCell (S := fun k => k = W.heap.size) _ _ _ (fun _ => rfl)) ?_).trans (fr_setCell (S := fun k => k = W.heap.size) _ _ _ (fun _ => rfl)) ?_).trans (fr_setCell (S := fun k => k = W.heap.size) _ _ _ (fun _ => rfl)) ?_
    all_goals (intro j hj e; exact absurd e (by omega))
end Go.Proofs.Ytidpmbbkpclccaa
namespace Go.Proofs.Ytidpmbbkpclccaa
set_option linter.all false
open Go.RowKit
set_option maxRecDepth 100000

def leastC (a b : Int) (ms : List Int) : Nat := ms.countP (fun m => bits .and .i64 m a == bits .and .i64 m b)
def mostC (b : Int) (ms : List Int) : Nat := ms.countP (fun m => bits .and .i64 m b != 0)
def allC (a : Int) (ms : List Int) : Bool := ms.all (fun m => bits .and .i64 m a != 0)
/-- Can masks have labels, if so many that count are there already? -/
def canI (a b c d : Int) (had : Nat) (ms : List Int) : Bool :=
  allC a ms && (decide ((had : Int) + leastC a b ms ≤ d) && decide (c ≤ (had : Int) + mostC b ms))
theorem leastC_snoc (a b : Int) (ms : List Int) (x : Int) : leastC a b (ms ++ [x]) = leastC a b ms + (if (bits .and .i64 x a == bits .and .i64 x b) = true then 1 else 0) := by
  unfold leastC; rw [List.countP_append, List.countP_cons, List.countP_nil]; simp
theorem mostC_snoc (b : Int) (ms : List Int) (x : Int) : mostC b (ms ++ [x]) = mostC b ms + (if (bits .and .i64 x b != 0) = true then 1 else 0) := by
  unfold mostC; rw [List.countP_append, List.countP_cons, List.countP_nil]; simp
theorem leastC_le (a b : Int) (ms : List Int) : leastC a b ms ≤ ms.length := List.countP_le_length
theorem mostC_le (b : Int) (ms : List Int) : mostC b ms ≤ ms.length := List.countP_le_length
theorem allC_no {a : Int} {ms : List Int} {k : Nat} (hk : k < ms.length) (h : bits .and .i64 (ms.getD k 0) a = 0) : allC a ms = false := by
  unfold allC
  rw [List.all_eq_false]
  refine ⟨ms.getD k 0, ?_, by rw [h]; simp⟩
  rw [List.getD_eq_getElem?_getD, List.getElem?_eq_getElem hk]; exact List.getElem_mem _
set_option maxHeartbeats 4000000 in
theorem Can_is {W : World} {a b c d : Int} {A : Option Addr} {cp : Nat} {xs : List Int} (h : IntsAt W A xs) (hsm : xs.length ≤ 1000000) {had : Nat} (hh : had ≤ 1000000) :
    Calls Try.prog 23 #[needV a b c d, .int .i64 had, .slice A xs.length cp] W (Rets (SamePost (canI a b c d had xs) W)) := by
  have HX := Lib.hid h
  clear h
  obtain ⟨W1, hW1⟩ : ∃ W1, W1 = W.alloc (.cells #[.int .i64 a, .int .i64 b, .int .i64 c, .int .i64 d] 58) := ⟨_, rfl⟩
  have h1 : W1.heap[W.heap.size]? = some (.cells #[.int .i64 a, .int .i64 b, .int .i64 c, .int .i64 d] 58) := by rw [hW1]; exact World.alloc_heap_new W _
  have k0 : W1.cell? ⟨W.heap.size, 0, none⟩ = some (.int .i64 a) := by simp [World.cell?, h1]
  have k1 : W1.cell? ⟨W.heap.size, 1, none⟩ = some (.int .i64 b) := by simp [World.cell?, h1]
  have k2 : W1.cell? ⟨W.heap.size, 2, none⟩ = some (.int .i64 c) := by simp [World.cell?, h1]
  have k3 : W1.cell? ⟨W.heap.size, 3, none⟩ = some (.int .i64 d) := by simp [World.cell?, h1]
  have HX1 : Hid (IntsAt W1 A xs) := Lib.hid (by rw [hW1]; exact HX.out.fr0 (fr_alloc _ _ _))
  have HF : Hid (Fr0 W W1) := Lib.hid (by rw [hW1]; exact fr_alloc _ _ _)
  clear h1
  unfold needV
  go_enter Try.func23, Try.ntmps23
  go_wp2_with fail
  rw [← hW1]
  have HW1 := Lib.hid hW1
  clear hW1
  go_loopw [7, 8, 10, 15] (fun v7 v8 v10 v15 wr => ∃ (k p q : Nat), k ≤ xs.length ∧ p ≤ k ∧ q ≤ k ∧ v15 = .int .i64 k ∧ v7 = .int .i64 (had + p : Nat) ∧ v8 = .int .i64 (had + q : Nat) ∧ Hid (allC a (xs.take k) = true) ∧ Hid (p = leastC a b (xs.take k)) ∧ Hid (q = mostC b (xs.take k)) ∧ W1 = wr) (fun _ _ _ v15 _ => xs.length - (intOf v15).toNat)
  case atStart => exact ⟨0, 0, 0, by omega, by omega, by omega, rfl, rfl, rfl, Lib.hid (by simp [allC]), Lib.hid (by simp [leastC]), Lib.hid (by simp [mostC]), rfl⟩
  case round =>
    obtain ⟨k, p, q, hk, hp, hq, rfl, rfl, rfl, HA, HP, HQ, rfl⟩ := hrel
    by_cases hlt : k < xs.length
    · obtain ⟨bk, o, rfl, hc⟩ := HX1.out.at_ hlt
      have hlt' : (k : Int) < (xs.length : Int) := by omega
      have HT := Lib.hid (take_succ_I xs k hlt)
      have HN := Lib.hid (fun h => allC_no (a := a) hlt h)
      generalize xs.getD k 0 = x at hc HT HN
      have HL := Lib.hid (leastC_snoc a b (xs.take k) x)
      have HM := Lib.hid (mostC_snoc b (xs.take k) x)
      have HAA : Hid (allC a (xs.take k ++ [x]) = (allC a (xs.take k) && (bits .and .i64 x a != 0))) := Lib.hid (by unfold allC; rw [List.all_append]; simp)
      obtain ⟨u, hu⟩ : ∃ u, bits .and .i64 x a = u := ⟨_, rfl⟩
      obtain ⟨z, hz⟩ : ∃ z, bits .and .i64 x b = z := ⟨_, rfl⟩
      rw [hu] at HL HAA HN
      rw [hz] at HL HM
      by_cases e1 : u = 0
      · have HR : Hid (canI a b c d had xs = false) := Lib.hid (by unfold canI; rw [HN.out e1]; rfl)
        have b1 : (u == 0) = true := by simp [e1]
        clear e1
        go_wp2_with fail
        go_ret
        exact ⟨_, rfl, by rw [HR.out]; rfl, HF.out⟩
      · have b1 : (u == 0) = false := by simp [e1]
        have HA2 : Hid (allC a (xs.take (k + 1)) = true) := Lib.hid (by rw [HT.out, HAA.out, HA.out]; simp [e1])
        clear e1
        by_cases e2 : u = z
        · have b2 : (u == z) = true := by simp [e2]
          have HP2 : Hid (p + 1 = leastC a b (xs.take (k + 1))) := Lib.hid (by rw [HT.out, HL.out, b2, ← HP.out]; rfl)
          clear e2
          by_cases e3 : z = 0
          · have b3 : (z != 0) = false := by simp [e3]
            have HQ2 : Hid (q = mostC b (xs.take (k + 1))) := Lib.hid (by rw [HT.out, HM.out, b3, ← HQ.out]; rfl)
            clear e3
            go_wp2_with fail
            go_roundw
            case rel => exact ⟨k + 1, p + 1, q, by omega, by omega, by omega, by go_num, by go_num, by go_num, HA2, HP2, HQ2, by first | rfl | trivial⟩
            case measure => simp [intOf]; omega
          · have b3 : (z != 0) = true := by simp [e3]
            have HQ2 : Hid (q + 1 = mostC b (xs.take (k + 1))) := Lib.hid (by rw [HT.out, HM.out, b3, ← HQ.out]; rfl)
            clear e3
            go_wp2_with fail
            go_roundw
            case rel => exact ⟨k + 1, p + 1, q + 1, by omega, by omega, by omega, by go_num, by go_num, by go_num, HA2, HP2, HQ2, by first | rfl | trivial⟩
            case measure => simp [intOf]; omega
        · have b2 : (u == z) = false := by simp [e2]
          have HP2 : Hid (p = leastC a b (xs.take (k + 1))) := Lib.hid (by rw [HT.out, HL.out, b2, ← HP.out]; rfl)
          clear e2
          by_cases e3 : z = 0
          · have b3 : (z != 0) = false := by simp [e3]
            have HQ2 : Hid (q = mostC b (xs.take (k + 1))) := Lib.hid (by rw [HT.out, HM.out, b3, ← HQ.out]; rfl)
            clear e3
            go_wp2_with fail
            go_roundw
            case rel => exact ⟨k + 1, p, q, by omega, by omega, by omega, by go_num, by go_num, by go_num, HA2, HP2, HQ2, by first | rfl | trivial⟩
            case measure => simp [intOf]; omega
          · have b3 : (z != 0) = true := by simp [e3]
            have HQ2 : Hid (q + 1 = mostC b (xs.take (k + 1))) := Lib.hid (by rw [HT.out, HM.out, b3, ← HQ.out]; rfl)
            clear e3
            go_wp2_with fail
            go_roundw
            case rel => exact ⟨k + 1, p, q + 1, by omega, by omega, by omega, by go_num, by go_num, by go_num, HA2, HP2, HQ2, by first | rfl | trivial⟩
            case measure => simp [intOf]; omega
    · have hke : k = xs.length := by omega
      have hge : ¬ (k : Int) < (xs.length : Int) := by omega
      have HA2 := HA.out
      have HP2 := HP.out
      have HQ2 := HQ.out
      rw [hke, List.take_of_length_le (Nat.le_refl _)] at HA2 HP2 HQ2
      have HR : Hid (canI a b c d had xs = (decide (((had + p : Nat) : Int) ≤ d) && decide (c ≤ ((had + q : Nat) : Int)))) := Lib.hid (by unfold canI; rw [HA2, HP2, HQ2]; simp)
      clear HA2 HP2 HQ2
      go_wp2_with fail
      all_goals go_ret
      all_goals try rfl
      all_goals (refine ⟨_, rfl, congrArg Value.bool (show _ = canI a b c d had xs from ?_), HF.out⟩; rw [HR.out, Bool.eq_iff_iff]; clear HR HX HX1 HA HP HQ HF HW1; simp; try omega)
end Go.Proofs.Ytidpmbbkpclccaa
