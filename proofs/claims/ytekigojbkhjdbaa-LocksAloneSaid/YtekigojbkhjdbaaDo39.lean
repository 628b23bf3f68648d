/- An act with locks, by the program and by the document. -/
import Derived.Test.YtekigojbkhjdbaaLocksC
namespace Go.Proofs.Ytekigojbkhjdbaa
set_option linter.all false
open Go.RowKit Go.Maps
set_option maxRecDepth 100000

abbrev actV (x : ActI) : Value := .agg #[.int .i64 x.a, .int .i64 x.b, .int .i64 x.c, .int .i64 x.d]
/-- What an act makes of the locks. -/
def doL (l : List LockI) (x : ActI) : List LockI := if x.a = 0 then askL l x.b x.c x.d else if x.a = 1 then freeL l x.b else l
theorem doL_len (l : List LockI) (x : ActI) : (doL l x).length ≤ l.length + 1 := by
  unfold doL
  split
  · exact askL_len _ _ _ _
  · split
    · have := freeL_len l x.b; omega
    · omega
theorem doL_once {l : List LockI} (ho : Once39 l) (x : ActI) : Once39 (doL l x) := by
  unfold doL
  split
  · exact askL_once ho
  · split
    · exact freeL_once ho
    · exact ho
def DoPost (c b n : Nat) (l : List LockI) (W : World) (v : Value) (w' : World) : Prop :=
  ∃ A cl, v = .tuple #[.slice A l.length cl, .bool true] ∧ Fr (fun k => k = b) W w' ∧ TabIs w' c b n l ∧ LocksAt w' A l
set_option maxHeartbeats 4000000 in
theorem Do39_is {W : World} {c b n cl : Nat} {A : Option Addr} {l : List LockI} (h : TabIs W c b n l) (hl : LocksAt W A l) (ho : Once39 l) (hn : n ≤ 1000) (hll : l.length ≤ 1000) {x : ActI} (hx : ActOk x) :
    Calls Try.prog 18 #[.pointer (some ⟨c, 0, none⟩), .slice A l.length cl, .agg #[.int .i64 x.a, .int .i64 x.b, .int .i64 x.c, .int .i64 x.d]] W (Rets (DoPost c b (n + 1) (doL l x) W)) := by
  obtain ⟨xa, xb, xc, xd⟩ := x
  obtain ⟨wa, wb, wc, wd⟩ := hx
  simp only at wa wb wc wd
  obtain ⟨w0, hw0⟩ : ∃ w0, w0 = W.alloc (.cells #[.int .i64 xa, .int .i64 xb, .int .i64 xc, .int .i64 xd] 37) := ⟨_, rfl⟩
  have hf0 : Fr0 W w0 := hw0 ▸ fr_alloc _ _ _
  have hh0 : w0.heap[W.heap.size]? = some (.cells #[.int .i64 xa, .int .i64 xb, .int .i64 xc, .int .i64 xd] 37 (0, 0)) := hw0 ▸ World.alloc_heap_new W _
  have k0 : w0.cell? ⟨W.heap.size, 0, none⟩ = some (.int .i64 xa) := by simp [World.cell?, hh0]
  have k1 : w0.cell? ⟨W.heap.size, 1, none⟩ = some (.int .i64 xb) := by simp [World.cell?, hh0]
  have k2 : w0.cell? ⟨W.heap.size, 2, none⟩ = some (.int .i64 xc) := by simp [World.cell?, hh0]
  have k3 : w0.cell? ⟨W.heap.size, 3, none⟩ = some (.int .i64 xd) := by simp [World.cell?, hh0]
  have hT := h.fr0 hf0
  have hL := hl.fr0 hf0
  by_cases h0 : xa = 0
  · subst h0
    have e : doL l ⟨0, xb, xc, xd⟩ = askL l xb xc xd := rfl
    rw [e]
    have HA := Lib.hid (TAsk_is hT ho hn (mode := xd) wb wc)
    have HR := Lib.hid (fun w' (f : Fr (fun k => k = b) w0 w') => Ask39_is (c := cl) (hL.fr_map hT.map f) (by omega) xb xc xd)
    have HM := Lib.hid hT.map
    generalize askL l xb xc xd = al at HA HR ⊢
    generalize canL l xb xc xd = cb at HA HR
    have hne := (hT.map.ne_cells hh0)
    have HK := Lib.hid (show ∀ w', Fr (fun k => k = b) w0 w' → w'.cell? ⟨W.heap.size, 1, none⟩ = some (.int .i64 xb) ∧ w'.cell? ⟨W.heap.size, 2, none⟩ = some (.int .i64 xc) ∧ w'.cell? ⟨W.heap.size, 3, none⟩ = some (.int .i64 xd) from fun w' f => ⟨f.cell k1 hne, f.cell k2 hne, f.cell k3 hne⟩)
    clear h hl hT hL hh0 hne
    go_enter Try.func18, Try.ntmps18
    go_wp2_with fail
    rw [← hw0]
    clear hw0
    go_wp2_with (first | (go_at_call 57; refine (HR.out _ hf1).mono ?_; rintro e w2 ⟨_, rfl, A2, c2, rfl, hf2, hl2⟩) | (go_at_call 54; refine (HA.out).mono ?_; rintro e w1 ⟨_, rfl, rfl, hf1, hT1⟩; obtain ⟨j1, j2, j3⟩ := HK.out _ hf1))
    cases cb <;> (go_wp2_with fail)
    all_goals
      go_ret2
      exact ⟨_, rfl, A2, c2, rfl, ((hf0.mono (fun _ _ h => h.elim)).trans (T := fun k => k = b) hf1 (fun j _ e => e)).trans0 hf2, hT1.fr0 hf2, hl2⟩
  · have d0 : (xa == 0) = false := by simpa using h0
    by_cases h1 : xa = 1
    · subst h1
      have e : doL l ⟨1, xb, xc, xd⟩ = freeL l xb := rfl
      rw [e]
      have HA := Lib.hid (TFree_is hT ho hn hll wb)
      have HR := Lib.hid (fun w' (f : Fr (fun k => k = b) w0 w') => Free39_is (c := cl) (hL.fr_map hT.map f) (by omega) xb)
      generalize freeL l xb = al at HA HR ⊢
      have hne := (hT.map.ne_cells hh0)
      have HK := Lib.hid (show ∀ w', Fr (fun k => k = b) w0 w' → w'.cell? ⟨W.heap.size, 1, none⟩ = some (.int .i64 xb) from fun w' f => f.cell k1 hne)
      clear h hl hT hL hh0 hne h0 d0
      go_enter Try.func18, Try.ntmps18
      go_wp2_with fail
      rw [← hw0]
      clear hw0
      go_wp2_with (first | (go_at_call 58; refine (HR.out _ hf1).mono ?_; rintro e w2 ⟨_, rfl, A2, c2, rfl, hf2, hl2⟩) | (go_at_call 55; refine (HA.out).mono ?_; rintro e w1 ⟨_, rfl, rfl, hf1, hT1⟩; have j1 := HK.out _ hf1))
      go_ret2
      have hT2 := hT1.fr0 hf2
      exact ⟨_, rfl, A2, c2, rfl, ((hf0.mono (fun _ _ h => h.elim)).trans (T := fun k => k = b) hf1 (fun j _ e => e)).trans0 hf2, ⟨hT2.box, hT2.map.mono (by omega), hT2.ok⟩, hl2⟩
    · have d1 : (xa == 1) = false := by simpa using h1
      have e : doL l ⟨xa, xb, xc, xd⟩ = l := by unfold doL; rw [if_neg h0, if_neg h1]
      rw [e]
      have HA := Lib.hid (fun w' (f : Fr0 w0 w') => TCan_is (hT.fr0 f) ho hn (mode := xd) wb wc)
      have HR := Lib.hid (fun w' (f : Fr0 w0 w') => Can39_is (c := cl) (hL.fr0 f) (by omega) xb xc xd)
      have HT := Lib.hid hT
      have HL := Lib.hid hL
      have HKS := Lib.hid (show ∀ w', Fr0 w0 w' → Fr0 w0 w' ∧ w'.cell? ⟨W.heap.size, 1, none⟩ = some (.int .i64 xb) ∧ w'.cell? ⟨W.heap.size, 2, none⟩ = some (.int .i64 xc) ∧ w'.cell? ⟨W.heap.size, 3, none⟩ = some (.int .i64 xd) from fun w' f => ⟨f, f.cell k1 (fun x => x), f.cell k2 (fun x => x), f.cell k3 (fun x => x)⟩)
      generalize canL l xb xc xd = cb at HA HR
      clear h hl hT hL hh0
      go_enter Try.func18, Try.ntmps18
      go_wp2_with fail
      rw [← hw0]
      clear hw0
      go_wp2_with fail
      go_region_held_law (fun w' => Fr0 w0 w' ∧ w'.cell? ⟨W.heap.size, 1, none⟩ = some (.int .i64 xb) ∧ w'.cell? ⟨W.heap.size, 2, none⟩ = some (.int .i64 xc) ∧ w'.cell? ⟨W.heap.size, 3, none⟩ = some (.int .i64 xd))
        ((refine HKS.out _ ?_; first | exact fr_drew _ _ | assumption | exact And.left (by assumption)))
        (first
          | (go_at_call 56; refine (HA.out _ (And.left (by assumption))).mono ?_; rintro e w1 ⟨_, rfl, rfl, hf1⟩; have hF1 := Fr.trans0 (And.left (by assumption)) hf1)
          | (go_at_call 59; refine (HR.out _ (And.left (by assumption))).mono ?_; rintro e w2 ⟨_, rfl, rfl, hf2⟩; have hF2 := Fr.trans0 (And.left (by assumption)) hf2))
      go_wp2_with fail
      go_ret2
      have hT2 := HT.out.fr0 hF2
      exact ⟨_, rfl, A, cl, rfl, (hf0.trans0 hF2).mono (fun _ _ h => h.elim), ⟨hT2.box, hT2.map.mono (by omega), hT2.ok⟩, HL.out.fr0 hF2⟩
end Go.Proofs.Ytekigojbkhjdbaa
