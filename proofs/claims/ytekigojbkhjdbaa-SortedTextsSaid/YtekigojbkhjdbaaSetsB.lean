/- The program's sets of whole numbers: what is read of them, and going through them. -/
import Derived.Test.YtekigojbkhjdbaaSets
namespace Go.Proofs.Ytekigojbkhjdbaa
set_option linter.all false
open Go.RowKit Go.Sort Go.Shelf
attribute [local go_sem] Oper.semAt_some
set_option maxRecDepth 100000

section
variable {W : World} {A : Option Addr} {c : Nat} {zs : List Int}
def FindPost (W : World) (zs : List Int) (x : Int) (e : Ending) (w' : World) : Prop :=
  e = .returned (.tuple #[.int .i64 (zs.countP (· < x) : Nat), .bool (decide (x ∈ zs))]) ∧ Fr0 W w'
theorem search_is (h : SetAt W A c zs) (x : Int) : Calls Try.prog 91 #[.slice A zs.length c, .int .i64 x] W (FindPost W zs x) := by
  rcases h.ints.2 with rfl | ⟨b, o, rfl, hc⟩
  · refine (Try.slices_BinarySearch_int_empty A c x W).mono ?_
    rintro e w' ⟨rfl, rfl⟩
    exact ⟨by simp, Fr.refl _ _⟩
  · refine (Try.slices_BinarySearch_int b o zs.length c zs x W (Nat.le_refl _) (by have := h.small; omega) hc (by rw [List.take_length]; exact h.rise.imp (fun h => Int.le_of_lt h))).mono ?_
    rintro e w' ⟨rfl, q, rfl⟩
    rw [List.take_length]
    exact ⟨by simp, fr_drewN _ _ _⟩
theorem place_is (h : SetAt W A c zs) (x : Int) : Calls Try.prog 76 #[setV A zs.length c, .int .i64 x] W (FindPost W zs x) := by
  have HS := Lib.hid (search_is (h.fr0 (fr_alloc _ W (.cells #[.slice A zs.length c] 76))) x)
  clear h
  go_enter Try.func76, Try.ntmps76
  go_wp2_with (go_at_call 91; refine (HS.out).mono ?_; rintro e w1 ⟨rfl, hf1⟩)
  go_ret2
  exact ⟨rfl, (fr_alloc _ _ _).trans0 hf1⟩
theorem SHas_is (h : SetAt W A c zs) (x : Int) : Calls Try.prog 45 #[setV A zs.length c, .int .i64 x] W (Rets (SamePost (decide (x ∈ zs)) W)) := by
  have HS := Lib.hid (place_is (h.fr0 (fr_alloc _ W (.cells #[.slice A zs.length c] 76))) x)
  clear h
  go_enter Try.func45, Try.ntmps45
  go_wp2_with (go_at_call 76; refine (HS.out).mono ?_; rintro e w1 ⟨rfl, hf1⟩)
  go_ret
  exact ⟨_, rfl, rfl, (fr_alloc _ _ _).trans0 hf1⟩
theorem SLen_is (A : Option Addr) (n c : Nat) (W : World) : Calls Try.prog 44 #[setV A n c] W fun e w' => e = .returned (.int .i64 (n : Int)) ∧ Fr0 W w' := by
  go_enter Try.func44, Try.ntmps44
  go_wp2
  go_ret
  exact ⟨rfl, fr_alloc _ _ _⟩
theorem SList_is (h : SetAt W A c zs) : Calls Try.prog 43 #[setV A zs.length c] W (Rets (IListPost W zs)) := by
  have hs := h.small
  have HC := Lib.hid (clone_is (h.ints.fr0 (fr_alloc _ W (.cells #[.slice A zs.length c] 76))) h.plain (by omega))
  clear h
  go_enter Try.func43, Try.ntmps43
  go_wp2_with (go_at_call 72; refine (HC.out).mono ?_; rintro e w1 ⟨v1, rfl, hf1, ho1⟩)
  go_ret
  exact ⟨_, rfl, (fr_alloc _ _ _).trans0 hf1, ho1.mono (by simp)⟩
end

/-! ### Going through a set -/
abbrev encS : Int → Array Value := fun x => #[.int .i64 x]
def setK (k : Nat) (A : Option Addr) (c : Nat) (zs : List Int) (W : World) : Prop := Box W k 76 (.slice A zs.length c) ∧ IntsAt W A zs
theorem setK.grow {k c B : Nat} {A : Option Addr} {zs : List Int} {W W' : World} (h : setK k A c zs W) (f : Grow B W W') : setK k A c zs W' := ⟨h.1.grow f, h.2.grow f⟩
set_option maxHeartbeats 2000000 in
theorem SAll1_is (k : Nat) (A : Option Addr) (c : Nat) (zs : List Int) (hsm : zs.length ≤ 1000000) :
    IterSpec Try.prog 81 #[.pointer (some ⟨k, 0, none⟩)] encS zs (setK k A c zs) := by
  intro l Ji Jx W hl hJK hJg hJxg h0 hY
  obtain ⟨x1, x2⟩ := hJK _ _ h0
  have y1 := x1.cell
  clear x1 x2
  refine callsIn_of_wp Try.func81 rfl trivial ?_
  simp only [Try.ntmps81, List.size_toArray, List.length_cons, List.length_nil, Nat.reduceAdd, Nat.reduceSub, Array.replicate_succ, Array.replicate_zero, List.push_toArray, List.append_toArray, List.nil_append, List.cons_append]
  gi_wp2
  gi_loopw [8] (fun v8 wr => ∃ i : Nat, i ≤ zs.length ∧ v8 = .int .i64 i ∧ Ji (zs.take i) wr ∧ ND (l + 1) W wr) (fun v8 _ => zs.length - (intOf v8).toNat)
  case atStart => exact ⟨0, by omega, rfl, by simpa using h0, ND.refl _ _⟩
  case round =>
    obtain ⟨i, hk, rfl, hJs, hnd⟩ := hrel
    by_cases hlt : i < zs.length
    · have hlt' : (i : Int) < (zs.length : Int) := by omega
      obtain ⟨z1, z2⟩ := hJK _ _ hJs
      obtain ⟨b, o, rfl, hc⟩ := z2.at_ hlt
      have htk := take_succ_I zs i hlt
      generalize hx : zs.getD i 0 = x at hc htk
      have hpre : zs.take i ++ [x] <+: zs := by rw [← htk]; exact List.take_prefix _ _
      have HTK := Lib.hid htk
      clear htk hx z1 z2
      obtain ⟨fn, tmps, assign, body, hy, hR⟩ := hY (zs.take i) x _ hJs hpre
      have hy' : (Instr.yield l #[.int .i64 x]).run Try.prog wr = .ok (.round l fn tmps assign body) wr := hy
      clear hy
      gi_wp2
      refine hR.mono ?_
      rintro e W3 ⟨hnd3, (⟨rfl, hJ3⟩ | ⟨rfl, hJx3⟩)⟩
      · gi_wp2
        go_roundw
        case rel => exact ⟨i + 1, by omega, by go_num, by rw [HTK.out]; exact hJ3, hnd.trans hnd3⟩
        case measure => simp [intOf]; omega
      · gi_wp2
        go_end0
        exact ⟨⟨_, rfl⟩, hnd.trans hnd3, .inr ⟨_, hpre, hJx3⟩⟩
    · have hke : i = zs.length := by omega
      subst hke
      gi_wp2
      go_end0
      rw [List.take_length] at hJs
      exact ⟨⟨_, rfl⟩, hnd, .inl hJs⟩
theorem SAll_is (A : Option Addr) (n c : Nat) (W : World) : Calls Try.prog 48 #[setV A n c] W fun e w' =>
    e = .returned (.func (.func 81) #[] #[.pointer (some ⟨W.heap.size, 0, none⟩)]) ∧ w' = W.alloc (.cells #[.slice A n c] 76) := by
  have hmf : ∀ (fn : Fn) (first cap : Array Value) (w : World), (Instr.makeFunc fn first cap).run Try.prog w = .ok (.func fn first cap) w := fun _ _ _ _ => rfl
  go_enter Try.func48, Try.ntmps48
  go_wp2
  go_ret
  exact ⟨rfl, rfl⟩
end Go.Proofs.Ytekigojbkhjdbaa
