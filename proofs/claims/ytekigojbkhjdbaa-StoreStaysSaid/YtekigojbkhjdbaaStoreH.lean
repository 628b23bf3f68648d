/- The program's store: committing. -/
import Derived.Test.YtekigojbkhjdbaaStoreG
import Derived.BigRegion
namespace Go.Proofs.Ytekigojbkhjdbaa
set_option linter.all false
open Go.RowKit Go.Maps
set_option maxRecDepth 100000

attribute [local go_sem ↓] appendH_eq
section
variable {W W' W1 : World} {B c b n co now : Nat} {Ao : Option Addr} {m : Int → Option Value} {P Q : List V4I}
set_option maxHeartbeats 8000000 in
theorem SCommit_is (h : StoreIs W B c b n Ao co m P Q now) (hP : P.length ≤ 10000) (hQ : Q.length ≤ 10000) (hn : n ≤ 50000) (hB : B ≤ W.heap.size) (hnow : now ≤ 1000000) (id : Int) :
    Calls Try.prog 63 #[.pointer (some ⟨c, 0, none⟩), .int .i64 id] W (Rets fun v w' => v = .int .i64 ((now + 1 : Nat) : Int) ∧ ∃ n' Ao' co' m', n' ≤ n + Q.length ∧ StoreIs w' B c b n' Ao' co' m' (P ++ comQ id ((now + 1 : Nat) : Int) Q) (selV (notP id) (fun x => x) Q) (now + 1) ∧ Fr (FootS B W) W w') := by
  have HI := Lib.hid (sis_is h)
  have c2 := h.c2
  have f2 := h.fz 2
  have hw : IntKind.i64.wrap ((now : Int) + 1) = ((now + 1 : Nat) : Int) := by rw [IntKind.wrap_i64]; omega
  have hcn := h.count
  obtain ⟨w0, hw0⟩ : ∃ w0, w0 = W.setCell ⟨c, 2, none⟩ (.int .i64 ((now + 1 : Nat) : Int)) := ⟨_, rfl⟩
  rw [← hw0] at hcn
  obtain ⟨_, h0, hf0⟩ := hcn
  have HW := Lib.hid hw0
  have HX := Lib.hid (h0.tups (by omega))
  have HH0 := Lib.hid h0
  have HF0 := Lib.hid hf0
  have hs0 : w0.heap.size = W.heap.size := by rw [hw0]; simp [World.setCell]
  have c1 := h0.c1
  rw [hw0] at c1
  generalize hN : now + 1 = N at hw h0 HH0 HW c1 ⊢
  have hN1 : 1 ≤ N := by omega
  clear h hw0 h0 hf0
  go_enter Try.func63, Try.ntmps63
  go_wp2_with (first
    | (go_at_call 68; refine (HI.out).mono ?_; rintro e w' ⟨rfl, rfl⟩))
  rw [← HW.out]
  go_loopw [22] (fun v22 wr => ∃ (k n' : Nat) (m' : Int → Option Value), k ≤ Q.length ∧ v22 = .int .i64 k ∧ n' ≤ n + k ∧ Hid (StoreIs wr B c b n' Ao co m' (P ++ comQ id (N : Int) (Q.take k)) Q N) ∧ Hid (Fr (FootS B W) W wr) ∧ W.heap.size ≤ wr.heap.size) (fun v22 _ => Q.length - (intOf v22).toNat)
  case atStart => exact ⟨0, n, m, by omega, rfl, by omega, Lib.hid (by simpa [comQ, selV] using HH0.out), HF0, by omega⟩
  case round =>
    obtain ⟨k, n', m', hk, rfl, hn', HS, HF, hsz⟩ := hrel
    have hcl : (comQ id (N : Int) (Q.take k)).length ≤ k := by
      have := selV_len (idP id) (stampV (N : Int)) (Q.take k)
      rw [List.length_take] at this
      unfold comQ; omega
    by_cases hlt : k < Q.length
    · obtain ⟨q, o, x, rfl, he, hxm, k0, k1, k2⟩ := opn_at (HS.out.tups (by omega)) hlt
      have hlt' : (k : Int) < (Q.length : Int) := by omega
      have hT := selV_take (idP id) (stampV (N : Int)) Q k he
      have hwx : wfI x.k := (HS.out.qok x hxm).2
      by_cases h1 : x.i = id
      · have d1 : (x.i == id) = true := by simpa using h1
        have hin : idP id x = true := by simp [idP, h1]
        rw [if_pos hin] at hT
        have HT := Lib.hid hT
        obtain ⟨wa, hwa⟩ : ∃ wa, wa = wr.alloc (.cells #[.int .i64 x.i, .int .i64 x.k, .int .i64 x.v] 107) := ⟨_, rfl⟩
        obtain ⟨A2, cc2, v', w1, w2, e1, e2, e3, e4, e5, e6, e7, e8, e9, e10, e11, e12, e13⟩ := commit_facts HS.out (by omega) (by rw [List.length_append]; omega) (by omega) hN1 hwx wa hwa
        rw [appendH_eq] at e8
        have g1 := (fr_alloc (fun _ => False) wa (.cells #[.int .i64 x.v, .int .i64 (N : Int)] 113)).cell e1 (fun x => x)
        have g2 := (fr_alloc (fun _ => False) wa (.cells #[.int .i64 x.v, .int .i64 (N : Int)] 113)).cell e4 (fun x => x)
        have HWA := Lib.hid hwa
        have HE12 := Lib.hid e12
        have HE13 := Lib.hid e13
        clear hT hin h1 hwa e12 e13 c1
        go_wp2_with fail
        rw [← HWA.out]
        go_region
        go_wp2_with fail
        have hsz2 := HE13.out.size
        go_roundw
        case rel => exact ⟨k + 1, n' + 1, _, by omega, by go_num, by omega, Lib.hid (by unfold comQ; rw [HT.out, ← List.append_assoc]; exact HE12.out), Lib.hid (FootS.trans HF.out HE13.out), by omega⟩
        case measure => simp [intOf]; omega
      · have d1 : (x.i == id) = false := by simpa using h1
        have hin : idP id x = false := by simp [idP, h1]
        rw [if_neg (by simp [hin]), List.append_nil] at hT
        have HT := Lib.hid hT
        clear hT hin
        go_wp2_with fail
        go_roundw
        case rel => exact ⟨k + 1, n', m', by omega, by go_num, by omega, Lib.hid (by unfold comQ; rw [HT.out]; exact HS.out.fr0 (fr_alloc _ _ _)), Lib.hid (HF.out.trans0 (fr_alloc _ _ _)), by simp; omega⟩
        case measure => simp [intOf]; omega
    · have hke : k = Q.length := by omega
      have hS := HS.out
      rw [hke, List.take_of_length_le (Nat.le_refl _)] at hS
      clear HS
      have HA := Lib.hid (SAbort_is hS (by omega) (by omega) id)
      clear hS
      go_wp2_with (go_at_call 66; refine (HA.out).mono ?_; rintro e w2 ⟨_, rfl, rfl, Ao', co', hS2, hf2⟩; have c2' := hS2.c2)
      go_ret
      exact ⟨_, rfl, rfl, n', Ao', co', m', by omega, hS2, FootS.trans HF.out hf2⟩
end
end Go.Proofs.Ytekigojbkhjdbaa
