/- A new store; the check of layer 40's statements. -/
import Derived.Test.YtekigojbkhjdbaaDo40B
namespace Go.Proofs.Ytekigojbkhjdbaa
set_option linter.all false
open Go.RowKit Go.Maps
set_option maxRecDepth 100000

theorem SNew_is (W : World) {B : Nat} (hB : B ≤ W.heap.size) : Calls Try.prog 28 #[] W (Rets fun v w' => ∃ c, v = .pointer (some ⟨c, 0, none⟩) ∧ Fr0 W w' ∧ SSt w' B c 0 [] [] 0) := by
  have hmm := @run_makeMap Try.prog
  have hm := MapIs.made W Try.prog 3 (fun a : Int => Lit.int .i64 a) (fun a => wfI a)
  have hb : ((W.alloc (.map #[] 0)).alloc (.cells #[.map (some W.heap.size), .slice none 0 0, .int .i64 0] 74)).heap[W.heap.size + 1]? = some (.cells #[.map (some W.heap.size), .slice none 0 0, .int .i64 0] 74 (0, 0)) := by
    have := World.alloc_heap_new (W.alloc (.map #[] 0)) (.cells #[.map (some W.heap.size), .slice none 0 0, .int .i64 0] 74); rwa [World.size_alloc] at this
  go_enter Try.func28, Try.ntmps28
  go_wp2_with fail
  go_ret
  refine ⟨_, rfl, _, rfl, (fr_alloc _ _ _).alloc _, ⟨W.heap.size, 0, none, 0, _, by omega, ⟨hb, own_nil _ _ _ _, hm.fr0 (fr_alloc _ _ _), fun x hx => .inl ⟨rfl, rfl⟩, fun x y u v _ _ _ h => (by cases h), by omega, hB, fun x hx => (by cases hx), fun x hx => (by cases hx)⟩⟩, by simp, by omega⟩
section
variable {W : World} {B c k now : Nat} {P Q : List V4I}
theorem SSt.now_is (h : SSt W B c k P Q now) : Calls Try.prog 30 #[.pointer (some ⟨c, 0, none⟩)] W fun e w' => e = .returned (.int .i64 (now : Int)) ∧ W = w' := by
  obtain ⟨⟨b, n, Ao, co, m, hn, hs⟩, _⟩ := h; exact SNow_is hs
theorem SSt.seen_is (h : SSt W B c k P Q now) (hk : k ≤ 1000) {id key upto : Int} (hw : wfI key) :
    Calls Try.prog 31 #[.pointer (some ⟨c, 0, none⟩), .int .i64 id, .int .i64 key, .int .i64 upto] W (Rets (IListPost W (selV (comP key upto) (fun x => x.v) P ++ selV (opnP id key) (fun x => x.v) Q))) := by
  obtain ⟨⟨b, n, Ao, co, m, hn, hs⟩, _, _⟩ := h; exact Seen_is hs (by omega) (by omega) hw
theorem SSt.all_is (h : SSt W B c k P Q now) (hk : k ≤ 1000) {key : Int} (hw : wfI key) :
    Calls Try.prog 33 #[.pointer (some ⟨c, 0, none⟩), .int .i64 key] W (Rets (IListPost W (selV (comP key (now : Int)) (fun x => x.v) P ++ selV (keyP key) (fun x => x.v) Q))) := by
  obtain ⟨⟨b, n, Ao, co, m, hn, hs⟩, _, _⟩ := h; exact All_is hs (by omega) (by omega) hw
theorem SSt.pending_is (h : SSt W B c k P Q now) (hk : k ≤ 1000) (id : Int) :
    Calls Try.prog 37 #[.pointer (some ⟨c, 0, none⟩), .int .i64 id] W (Rets (IListPost W (ofI (selV (idP id) (fun x => x.k) Q)))) := by
  obtain ⟨⟨b, n, Ao, co, m, hn, hs⟩, _, _⟩ := h; exact Pending_is hs (by omega) id
theorem SSt.changed_is (h : SSt W B c k P Q now) (hk : k ≤ 1000) {key : Int} (hw : wfI key) (since : Int) :
    Calls Try.prog 35 #[.pointer (some ⟨c, 0, none⟩), .int .i64 key, .int .i64 since] W (Rets (SamePost (P.any (fun x => x.k == key && decide (since < x.s))) W)) := by
  obtain ⟨⟨b, n, Ao, co, m, hn, hs⟩, _, _⟩ := h; exact Changed_is hs (by omega) hw since
theorem SSt.ok (h : SSt W B c k P Q now) : POk now P ∧ QOk Q := by obtain ⟨⟨b, n, Ao, co, m, hn, hs⟩, _, _⟩ := h; exact ⟨hs.pok, hs.qok⟩
theorem SSt.append_is (h : SSt W B c k P Q now) (hk : k ≤ 60) (hB : B ≤ W.heap.size) {id key value : Int} (hw : wfI key) {Q' : List V4I} (hq : Q ++ [⟨id, key, value, 0⟩] = Q') :
    Calls Try.prog 62 #[.pointer (some ⟨c, 0, none⟩), .int .i64 id, .int .i64 key, .int .i64 value] W (Rets fun v w' => v = .tuple #[] ∧ SSt w' B c (k + 1) P Q' now ∧ Fr (FootS B W) W w') := by
  obtain ⟨⟨b, n, Ao, co, m, hn, hs⟩, hl, hno⟩ := h
  subst hq
  refine (SAppend_is hs (by omega) hB hw).mono ?_
  rintro e w' ⟨v, rfl, rfl, Ao', co', hs', hf⟩
  exact ⟨_, rfl, rfl, ⟨⟨b, n, Ao', co', m, by omega, hs'⟩, by rw [List.length_append]; simp; omega, by omega⟩, hf⟩
theorem SSt.commit_is (h : SSt W B c k P Q now) (hk : k ≤ 60) (hB : B ≤ W.heap.size) {id : Int} {P' Q' : List V4I} (hp : P ++ comQ id ((now + 1 : Nat) : Int) Q = P') (hq : selV (notP id) (fun x => x) Q = Q') :
    Calls Try.prog 63 #[.pointer (some ⟨c, 0, none⟩), .int .i64 id] W (Rets fun v w' => v = .int .i64 ((now + 1 : Nat) : Int) ∧ SSt w' B c (k + 1) P' Q' (now + 1) ∧ Fr (FootS B W) W w') := by
  obtain ⟨⟨b, n, Ao, co, m, hn, hs⟩, hl, hno⟩ := h
  have hsp := sel_split Q id ((now + 1 : Nat) : Int)
  subst hp
  subst hq
  refine (SCommit_is hs (by omega) (by omega) (by omega) hB (by omega) id).mono ?_
  rintro e w' ⟨v, rfl, rfl, n', Ao', co', m', hn', hs', hf⟩
  exact ⟨_, rfl, rfl, ⟨⟨b, n', Ao', co', m', by omega, hs'⟩, by rw [List.length_append]; omega, by omega⟩, hf⟩
end
section
variable {W : World} {B c k now : Nat} {P Q : List V4I}
theorem SSt.seen_eq (h : SSt W B c k P Q now) (hk : k ≤ 1000) {id key upto : Int} (hw : wfI key) {l : List Int} (e : selV (comP key upto) (fun x => x.v) P ++ selV (opnP id key) (fun x => x.v) Q = l) :
    Calls Try.prog 31 #[.pointer (some ⟨c, 0, none⟩), .int .i64 id, .int .i64 key, .int .i64 upto] W (Rets (IListPost W l)) := e ▸ h.seen_is hk hw
theorem SSt.all_eq (h : SSt W B c k P Q now) (hk : k ≤ 1000) {key : Int} (hw : wfI key) {l : List Int} (e : selV (comP key (now : Int)) (fun x => x.v) P ++ selV (keyP key) (fun x => x.v) Q = l) :
    Calls Try.prog 33 #[.pointer (some ⟨c, 0, none⟩), .int .i64 key] W (Rets (IListPost W l)) := e ▸ h.all_is hk hw
theorem SSt.pending_eq (h : SSt W B c k P Q now) (hk : k ≤ 1000) {id : Int} {l : List Int} (e : ofI (selV (idP id) (fun x => x.k) Q) = l) :
    Calls Try.prog 37 #[.pointer (some ⟨c, 0, none⟩), .int .i64 id] W (Rets (IListPost W l)) := e ▸ h.pending_is hk id
theorem SSt.changed_eq (h : SSt W B c k P Q now) (hk : k ≤ 1000) {key : Int} (hw : wfI key) {since : Int} {r : Bool} (e : P.any (fun x => x.k == key && decide (since < x.s)) = r) :
    Calls Try.prog 35 #[.pointer (some ⟨c, 0, none⟩), .int .i64 key, .int .i64 since] W (Rets (SamePost r W)) := e ▸ h.changed_is hk hw since
end
theorem lit1y {W : World} (a : Int) : IntsAt (W.alloc (.cells #[.int .i64 a] 3)) (some ⟨W.heap.size, 0, none⟩) [a] := ints_lit (l := [a]) (World.alloc_heap_new _ _) (by simp)
theorem lit2y {W : World} (a b : Int) : IntsAt (W.alloc (.cells #[.int .i64 a, .int .i64 b] 3)) (some ⟨W.heap.size, 0, none⟩) [a, b] := ints_lit (l := [a, b]) (World.alloc_heap_new _ _) (by simp)
theorem wf0y : wfI 0 := by unfold wfI; decide
def q1 : List V4I := [⟨1, 0, 5, 0⟩]
def q2 : List V4I := [⟨1, 0, 5, 0⟩, ⟨2, 0, 6, 0⟩]
def p1 : List V4I := [⟨2, 0, 6, 1⟩]
set_option maxHeartbeats 8000000 in
theorem works40_is (W : World) : Calls Try.prog 27 #[] W (Rets (SamePost true W)) := by
  have g1 := Lib.hid (show ([] : List V4I) ++ [⟨1, 0, 5, 0⟩] = q1 by decide)
  have g2 := Lib.hid (show q1 ++ [⟨2, 0, 6, 0⟩] = q2 by decide)
  have g3 := Lib.hid (show selV (comP 0 ((0 : Nat) : Int)) (fun x => x.v) [] ++ selV (keyP 0) (fun x => x.v) q2 = [5, 6] by decide)
  have g4 := Lib.hid (show [] ++ comQ 2 (((0 : Nat) + 1 : Nat) : Int) q2 = p1 by decide)
  have g5 := Lib.hid (show selV (notP 2) (fun x => x) q2 = q1 by decide)
  have g6 := Lib.hid (show selV (comP 0 1) (fun x => x.v) p1 ++ selV (opnP 1 0) (fun x => x.v) q1 = [6, 5] by decide)
  have g7 := Lib.hid (show selV (comP 0 0) (fun x => x.v) p1 ++ selV (opnP 1 0) (fun x => x.v) q1 = [5] by decide)
  have g8 := Lib.hid (show p1.any (fun x => x.k == 0 && decide (0 < x.s)) = true by decide)
  have g9 := Lib.hid (show p1.any (fun x => x.k == 0 && decide (1 < x.s)) = false by decide)
  have g10 := Lib.hid (show ofI (selV (idP 1) (fun x => x.k) q1) = [0] by decide)
  go_enter Try.func27, Try.ntmps27
  go_wp2_with (first
    | (go_at_call 21; refine (Same_is (c := c13) (d := 1) ((own_intsI ho13 (Nat.le_of_ble_eq_true rfl)).fr0 (fr_alloc _ _ _)) (lit1y 0)).mono ?_; rintro e w14 ⟨_, rfl, rfl, hf14⟩; have hF14 := hF13.trans0 ((fr_alloc _ _ _).trans0 hf14))
    | (go_at_call 37; refine ((hT10.fr0 (hf11.trans0 hf12)).pending_eq (by omega) g10.out).mono ?_; rintro e w13 ⟨v13, rfl, hf13, ho13⟩; obtain ⟨A13, c13, rfl⟩ := own_form ho13; have hF13 := hF12.trans0 hf13)
    | (go_at_call 35; (with_reducible refine ((hT10.fr0 hf11).changed_eq (by omega) wf0y g9.out).mono ?_); rintro e w12 ⟨_, rfl, rfl, hf12⟩; have hF12 := hF11.trans0 hf12)
    | (go_at_call 35; (with_reducible refine (hT10.changed_eq (by omega) wf0y g8.out).mono ?_); rintro e w11 ⟨_, rfl, rfl, hf11⟩; have hF11 := hF10.trans0 hf11)
    | (go_at_call 21; refine (Same_is (c := c9) (d := 1) ((own_intsI ho9 (Nat.le_of_ble_eq_true rfl)).fr0 (fr_alloc _ _ _)) (lit1y 5)).mono ?_; rintro e w10 ⟨_, rfl, rfl, hf10⟩; have hF10 := hF9.trans0 ((fr_alloc _ _ _).trans0 hf10); have hT10 := (hT8.fr0 hf9).fr0 ((fr_alloc _ _ _).trans0 hf10))
    | (go_at_call 31; (with_reducible refine (hT8.seen_eq (by omega) wf0y g7.out).mono ?_); rintro e w9 ⟨v9, rfl, hf9, ho9⟩; obtain ⟨A9, c9, rfl⟩ := own_form ho9; have hF9 := hF8.trans0 hf9)
    | (go_at_call 21; refine (Same_is (c := c7) (d := 2) ((own_intsI ho7 (Nat.le_of_ble_eq_true rfl)).fr0 (fr_alloc _ _ _)) (lit2y 6 5)).mono ?_; rintro e w8 ⟨_, rfl, rfl, hf8⟩; have hF8 := hF7.trans0 ((fr_alloc _ _ _).trans0 hf8); have hT8 := (hT6.fr0 hf7).fr0 ((fr_alloc _ _ _).trans0 hf8))
    | (go_at_call 31; (with_reducible refine (hT6.seen_eq (by omega) wf0y g6.out).mono ?_); rintro e w7 ⟨v7, rfl, hf7, ho7⟩; obtain ⟨A7, c7, rfl⟩ := own_form ho7; have hF7 := hF6.trans0 hf7)
    | (go_at_call 30; refine (hT6.now_is).mono ?_; rintro e w' ⟨rfl, rfl⟩)
    | (go_at_call 21; refine (Same_is (c := c4) (d := 2) ((own_intsI ho5 (Nat.le_of_ble_eq_true rfl)).fr0 (fr_alloc _ _ _)) (lit2y 5 6)).mono ?_; rintro e w6 ⟨_, rfl, rfl, hf6⟩; have hF6 := hF5.trans0 ((fr_alloc _ _ _).trans0 hf6); have hT6 := hT5.fr0 ((fr_alloc _ _ _).trans0 hf6))
    | (go_at_call 63; refine (hT4.commit_is (by omega) (by have := hF4.size; omega) g4.out g5.out).mono ?_; rintro e w5 ⟨_, rfl, rfl, hT5, hf5⟩; have hF5 := fr_foot hF4 (Nat.le_refl _) hf5; have ho5 := own_foot ho4 hf5 (by decide) (by decide) (by decide))
    | (go_at_call 33; refine (hT3.all_eq (by omega) wf0y g3.out).mono ?_; rintro e w4 ⟨v4, rfl, hf4, ho4⟩; obtain ⟨A4, c4, rfl⟩ := own_form ho4; have hF4 := hF3.trans0 hf4; have hT4 := hT3.fr0 hf4)
    | (go_at_call 62; (with_reducible refine (hT2.append_is (by omega) (by have := hF2.size; omega) wf0y g2.out).mono ?_); rintro e w3 ⟨_, rfl, rfl, hT3, hf3⟩; have hF3 := fr_foot hF2 (Nat.le_refl _) hf3)
    | (go_at_call 62; (with_reducible refine (hT1.append_is (by omega) (by have := hF1.size; omega) wf0y g1.out).mono ?_); rintro e w2 ⟨_, rfl, rfl, hT2, hf2⟩; have hF2 := fr_foot hF1 (Nat.le_refl _) hf2)
    | (go_at_call 28; refine (SNew_is W (Nat.le_refl _)).mono ?_; rintro e w1 ⟨_, rfl, ct, rfl, hF1, hT1⟩))
  go_ret
  exact ⟨_, rfl, rfl, hF14⟩
theorem none40_is {W : World} {v : Value} (h : NoStore W v) (id key value : Int) :
    Calls Try.prog 40 #[v, .int .i64 id, .int .i64 key, .int .i64 value] W (Rets (SamePost true W)) := by
  have HH := Lib.hid h
  clear h
  go_enter Try.func40, Try.ntmps40
  go_wp2_with (first
    | (go_at_call 62; (with_reducible refine (SAppend_none HH.out id key value).mono ?_); rintro e w' ⟨rfl, rfl⟩)
    | (go_at_call 63; refine (SCommit_none HH.out id).mono ?_; rintro e w' ⟨rfl, rfl⟩)
    | (go_at_call 66; refine (SAbort_none HH.out value).mono ?_; rintro e w1 ⟨rfl, hf1⟩; have h1 := HH.out.fr0 hf1)
    | (go_at_call 30; refine (SNow_none h1).mono ?_; rintro e w' ⟨rfl, rfl⟩)
    | (go_at_call 31; refine (Seen_none h1 id key value).mono ?_; rintro e w' ⟨rfl, rfl⟩)
    | (go_at_call 33; refine (All_none h1 key).mono ?_; rintro e w' ⟨rfl, rfl⟩)
    | (go_at_call 37; refine (Pending_none h1 id).mono ?_; rintro e w' ⟨rfl, rfl⟩)
    | (go_at_call 35; refine (Changed_none h1 key value).mono ?_; rintro e w2 ⟨_, rfl, rfl, hf2⟩))
  go_ret
  exact ⟨_, rfl, rfl, hf1.trans0 hf2⟩
theorem StoreNone_is {W : World} {id key value : Int} :
    Calls Try.prog 9 #[.int .i64 id, .int .i64 key, .int .i64 value] W (Rets (SamePost true W)) := by
  have H1 := Lib.hid (fun w : World => none40_is (W := w) (.inl rfl) id key value)
  have H2 := Lib.hid (fun w : World => none40_is (W := w.alloc (.cells #[.map none, .slice none 0 0, .int .i64 0] 74)) (.inr ⟨_, rfl, World.alloc_heap_new w _⟩) id key value)
  go_enter Try.func9, Try.ntmps9
  go_wp2_with (first
    | (go_at_call 27; refine (works40_is _).mono ?_; rintro e w4 ⟨_, rfl, rfl, hf4⟩)
    | (go_at_call 40; (with_reducible refine (H1.out _).mono ?_); rintro e w1 ⟨_, rfl, rfl, hf1⟩)
    | (go_at_call 40; (with_reducible refine (H2.out _).mono ?_); rintro e w2 ⟨_, rfl, rfl, hf2⟩))
  go_ret
  exact ⟨_, rfl, rfl, ((hf1.alloc _).trans0 hf2).trans0 hf4⟩
end Go.Proofs.Ytekigojbkhjdbaa
