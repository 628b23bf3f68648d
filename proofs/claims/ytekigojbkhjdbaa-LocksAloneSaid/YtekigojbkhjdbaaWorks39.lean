/- The check of layer 39's statements: two that share a key. -/
import Derived.Test.YtekigojbkhjdbaaDo39
namespace Go.Proofs.Ytekigojbkhjdbaa
set_option linter.all false
open Go.RowKit Go.Maps
set_option maxRecDepth 100000

theorem lit1z {W : World} (a : Int) : IntsAt (W.alloc (.cells #[.int .i64 a] 3)) (some ⟨W.heap.size, 0, none⟩) [a] := ints_lit (l := [a]) (World.alloc_heap_new _ _) (by simp)
section
variable {W : World} {c b n : Nat} {l l' : List LockI} {id key mode : Int} {r : Bool}
theorem TAsk_eq (h : TabIs W c b n l) (ho : Once39 l) (hn : n ≤ 1000) (h1 : wfI id) (h2 : wfI key) (e1 : askL l id key mode = l') (e2 : canL l id key mode = r) :
    Calls Try.prog 54 #[.pointer (some ⟨c, 0, none⟩), .int .i64 id, .int .i64 key, .int .i64 mode] W (Rets (TAskPost c b (n + 1) l' r W)) := by
  subst e1; subst e2; exact TAsk_is h ho hn h1 h2
theorem TCan_eq (h : TabIs W c b n l) (ho : Once39 l) (hn : n ≤ 1000) (h1 : wfI id) (h2 : wfI key) (e2 : canL l id key mode = r) :
    Calls Try.prog 56 #[.pointer (some ⟨c, 0, none⟩), .int .i64 id, .int .i64 key, .int .i64 mode] W (Rets (BoolPost r W)) := by
  subst e2; exact TCan_is h ho hn h1 h2
theorem TBlocks_eq (h : TabIs W c b n l) (ho : Once39 l) (hn : n ≤ 1000) (h1 : wfI id) (h2 : wfI key) {k : List Int} (e : blkL l id key mode = k) :
    Calls Try.prog 24 #[.pointer (some ⟨c, 0, none⟩), .int .i64 id, .int .i64 key, .int .i64 mode] W (Rets (IListPost W k)) := by
  subst e; exact TBlocks_is h ho hn h1 h2
theorem TKeys_eq (h : TabIs W c b n l) (ho : Once39 l) (hn : n ≤ 1000) (h1 : wfI id) {k : List Int} (e : ofI (keysR l id) = k) :
    Calls Try.prog 22 #[.pointer (some ⟨c, 0, none⟩), .int .i64 id] W (Rets (IListPost W k)) := by
  subst e; exact TKeys_is h ho hn h1
theorem THolds_eq (h : TabIs W c b n l) (h1 : wfI id) (h2 : wfI key) {k : Int} (e : holdsL l id key = k) :
    Calls Try.prog 19 #[.pointer (some ⟨c, 0, none⟩), .int .i64 id, .int .i64 key] W fun e w' => e = .returned (.int .i64 k) ∧ W = w' := by
  subst e; exact THolds_is h h1 h2
theorem TFree_eq (h : TabIs W c b n l) (ho : Once39 l) (hn : n ≤ 1000) (hll : l.length ≤ 1000) (h1 : wfI id) (e : freeL l id = l') :
    Calls Try.prog 55 #[.pointer (some ⟨c, 0, none⟩), .int .i64 id] W (Rets (TFreePost c b n l' W)) := by
  subst e; exact TFree_is h ho hn hll h1
end
theorem wf1 : wfI 1 := by unfold wfI; decide
theorem wf2 : wfI 2 := by unfold wfI; decide
theorem wf5 : wfI 5 := by unfold wfI; decide
def L1 : List LockI := [⟨1, 5, 1⟩]
def L2 : List LockI := [⟨1, 5, 1⟩, ⟨2, 5, 1⟩]
def L4 : List LockI := [⟨1, 5, 2⟩]
theorem o1 : Once39 L1 := by intro x hx y hy h1 h2; simp [L1] at hx hy; rw [hx, hy]
theorem o4 : Once39 L4 := by intro x hx y hy h1 h2; simp [L4] at hx hy; rw [hx, hy]
theorem o2 : Once39 L2 := by
  intro x hx y hy h1 h2
  simp [L2] at hx hy
  rcases hx with rfl | rfl <;> rcases hy with rfl | rfl <;> first | rfl | (simp at h1)
theorem fr_new {W w w' : World} {b : Nat} (h : Fr0 W w) (hb : W.heap.size ≤ b) (f : Fr (fun k => k = b) w w') : Fr0 W w' := h.trans f (fun j hj e => by omega)
set_option maxHeartbeats 8000000 in
theorem works39_is (W : World) : Calls Try.prog 16 #[] W (Rets (SamePost true W)) := by
  have g1 : askL [] 1 5 1 = L1 := by decide
  have g1c : canL [] 1 5 1 = true := by decide
  have g2 : askL L1 2 5 1 = L2 := by decide
  have g2c : canL L1 2 5 1 = true := by decide
  have g3 : askL L2 1 5 2 = L2 := by decide
  have g3c : canL L2 1 5 2 = false := by decide
  have g4 : blkL L2 1 5 2 = [2] := by decide
  have g5 : freeL L2 2 = L1 := by decide
  have g6 : canL L1 1 5 2 = true := by decide
  have g7 : askL L1 1 5 2 = L4 := by decide
  have g8 : holdsL L4 1 5 = 2 := by decide
  have g9 : holdsL L4 2 5 = 0 := by decide
  have g10 : ofI (keysR L4 1) = [5] := by decide
  have g1 := Lib.hid g1
  have g2 := Lib.hid g2
  have g3 := Lib.hid g3
  have g4 := Lib.hid g4
  have g5 := Lib.hid g5
  have g7 := Lib.hid g7
  have g8 := Lib.hid g8
  have g9 := Lib.hid g9
  have g10 := Lib.hid g10
  have g1c := Lib.hid g1c
  have g2c := Lib.hid g2c
  have g3c := Lib.hid g3c
  have g6 := Lib.hid g6
  go_enter Try.func16, Try.ntmps16
  go_wp2_with (first
    | (go_at_call 21; refine (Same_is (c := c11) (d := 1) ((own_intsI ho11 (Nat.le_of_ble_eq_true rfl)).fr0 (fr_alloc _ _ _)) (lit1z 5)).mono ?_; rintro e w12 ⟨_, rfl, rfl, hf12⟩; have hF12 := hF11.trans0 ((fr_alloc _ _ _).trans0 hf12))
    | (go_at_call 22; (with_reducible refine (TKeys_eq hT10 o4 (by omega) wf1 g10.out).mono ?_); rintro e w11 ⟨v11, rfl, hf11, ho11⟩; obtain ⟨A11, c11, rfl⟩ := own_form ho11; have hF11 := hF10.trans0 hf11)
    | (go_at_call 19; (with_reducible refine (THolds_eq hT10 wf2 wf5 g9.out).mono ?_); rintro e w' ⟨rfl, rfl⟩)
    | (go_at_call 19; (with_reducible refine (THolds_eq hT10 wf1 wf5 g8.out).mono ?_); rintro e w' ⟨rfl, rfl⟩)
    | (go_at_call 54; (with_reducible refine (TAsk_eq hT9 o1 (by omega) wf1 wf5 g7.out g6.out).mono ?_); rintro e w10 ⟨_, rfl, rfl, hf10, hT10⟩; have hF10 := fr_new hF9 hbW hf10)
    | (go_at_call 56; (with_reducible refine (TCan_eq hT8 o1 (by omega) wf1 wf5 g6.out).mono ?_); rintro e w9 ⟨_, rfl, rfl, hf9⟩; have hF9 := hF8.trans0 hf9; have hT9 := hT8.fr0 hf9)
    | (go_at_call 55; (with_reducible refine (TFree_eq hT7 o2 (by omega) (Nat.le_of_ble_eq_true rfl) wf2 g5.out).mono ?_); rintro e w8 ⟨_, rfl, rfl, hf8, hT8⟩; have hF8 := fr_new hF7 hbW hf8)
    | (go_at_call 21; refine (Same_is (c := c6) (d := 1) ((own_intsI ho6 (Nat.le_of_ble_eq_true rfl)).fr0 (fr_alloc _ _ _)) (lit1z 2)).mono ?_; rintro e w7 ⟨_, rfl, rfl, hf7⟩; have hF7 := hF6.trans0 ((fr_alloc _ _ _).trans0 hf7); have hT7 := (hT5.fr0 hf6).fr0 ((fr_alloc _ _ _).trans0 hf7))
    | (go_at_call 24; (with_reducible refine (TBlocks_eq hT5 o2 (by omega) wf1 wf5 g4.out).mono ?_); rintro e w6 ⟨v6, rfl, hf6, ho6⟩; obtain ⟨A6, c6, rfl⟩ := own_form ho6; have hF6 := hF5.trans0 hf6)
    | (go_at_call 54; (with_reducible refine (TAsk_eq hT4 o2 (by omega) wf1 wf5 g3.out g3c.out).mono ?_); rintro e w5 ⟨_, rfl, rfl, hf5, hT5⟩; have hF5 := fr_new hF4 hbW hf5)
    | (go_at_call 54; (with_reducible refine (TAsk_eq hT3 o1 (by omega) wf2 wf5 g2.out g2c.out).mono ?_); rintro e w4 ⟨_, rfl, rfl, hf4, hT4⟩; have hF4 := fr_new hF3 hbW hf4)
    | (go_at_call 54; (with_reducible refine (TAsk_eq hT1 once_nil (by omega) wf1 wf5 g1.out g1c.out).mono ?_); rintro e w3 ⟨_, rfl, rfl, hf3, hT3⟩; have hF3 := fr_new hF1 hbW hf3)
    | (go_at_call 17; refine (TNew_is W).mono ?_; rintro e w1 ⟨_, rfl, c, b, rfl, hF1, hbW, hT1⟩))
  go_ret
  exact ⟨_, rfl, rfl, hF12⟩
end Go.Proofs.Ytekigojbkhjdbaa
