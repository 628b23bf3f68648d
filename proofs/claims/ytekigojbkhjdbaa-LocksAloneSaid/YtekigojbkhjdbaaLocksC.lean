/- The program's locks: whether one can be held; asking and freeing. -/
import Derived.Test.YtekigojbkhjdbaaLocksB
namespace Go.Proofs.Ytekigojbkhjdbaa
set_option linter.all false
open Go.RowKit Go.Maps
set_option maxRecDepth 100000

theorem MapIs.no_cell {α : Type} [DecidableEq α] {P : Program} {k : TypeId} {lit : α → Lit} {ok : α → Prop} {W : World} {b n : Nat} {m : α → Option Value} (h : MapIs P k lit ok W b n m) (o : Nat) (s : Option Nat) : W.cell? ⟨b, o, s⟩ = none := by
  obtain ⟨es, clock, hb⟩ := h.isMapObj
  simp [World.cell?, hb]
theorem TupsAt.fr_map {α β : Type} [DecidableEq β] {enc : α → List Int} {k : Nat} {W W' : World} {A : Option Addr} {l : List α} {P : Program} {kt : TypeId} {lit : β → Lit} {ok : β → Prop} {b n : Nat} {m : β → Option Value} (h : TupsAt enc (k + 1) W A l)
    (hm : MapIs P kt lit ok W b n m) (f : Fr (fun j => j = b) W W') : TupsAt enc (k + 1) W' A l := by
  refine h.fr f (fun q o e hne => ?_)
  rcases h.2 with e0 | ⟨b', o', e', hc⟩
  · exact absurd e0 hne
  · rw [e] at e'
    cases e'
    have hl : 0 < l.length := Nat.pos_of_ne_zero (fun h0 => hne (List.length_eq_zero_iff.1 h0))
    have := hc 0 hl 0 (by omega)
    rintro rfl
    rw [hm.no_cell] at this
    cases this
theorem Box.fr_map {β : Type} [DecidableEq β] {W W' : World} {P : Program} {kt : TypeId} {lit : β → Lit} {ok : β → Prop} {b n c t : Nat} {v : Value} {m : β → Option Value} (h : Box W c t v) (hm : MapIs P kt lit ok W b n m) (f : Fr (fun j => j = b) W W') : Box W' c t v :=
  h.fr f (hm.ne_cells h)
/-! ### the rows -/
theorem holdsL_mode {l : List LockI} (hok : LockOk l) (id key : Int) : holdsL l id key = 0 ∨ holdsL l id key = 1 ∨ holdsL l id key = 2 := by
  unfold holdsL
  cases h : l.find? (hitL id key) with
  | none => exact .inl rfl
  | some x => exact .inr (hok x (List.mem_of_find?_eq_some h)).2.2
theorem canL_mode {l : List LockI} {id key mode : Int} (h : canL l id key mode = true) : mode = 1 ∨ mode = 2 := by
  unfold canL isMode at h
  simp at h
  exact h.1
def maxI (a b : Int) : Int := if a < b then b else a
theorem askL_held {l : List LockI} {id key mode : Int} (hok : LockOk l) (hc : canL l id key mode = true) (q : Int × Int) :
    heldM (askL l id key mode) q = upd (heldM l) (id, key) (some (.int .i64 (maxI (holdsL l id key) mode))) q := by
  have hm := canL_mode hc
  have hh := holdsL_mode hok id key
  unfold askL
  rw [if_pos hc]
  by_cases h2 : holdsL l id key = 2
  · rw [if_pos h2]
    unfold upd
    split
    · rename_i e
      subst e
      have hx : maxI (holdsL l id key) mode = 2 := by unfold maxI; split <;> omega
      rw [hx]
      unfold heldM
      unfold holdsL at h2
      cases h : l.find? (hitL id key) with
      | none => rw [h] at h2; cases h2
      | some x => rw [h] at h2; simp at h2; simp [h2]
    · rfl
  · rw [if_neg h2]
    have hx : maxI (holdsL l id key) mode = mode := by unfold maxI; split <;> omega
    rw [hx]
    unfold heldM upd
    rw [List.find?_append]
    by_cases e : q = (id, key)
    · subst e
      rw [if_pos rfl]
      have : (l.filter (fun x => !hitL id key x)).find? (hitL id key) = none := by
        rw [List.find?_eq_none]
        intro x hx
        simpa using (List.mem_filter.1 hx).2
      simp only [this]
      simp [hitL]
    · rw [if_neg e]
      have hf : (l.filter (fun x => !hitL id key x)).find? (hitL q.1 q.2) = l.find? (hitL q.1 q.2) := by
        refine find_filter_keep (fun p hp => ?_) l
        simp only [hitL, Bool.and_eq_true, beq_iff_eq] at hp
        simp only [hitL, Bool.not_eq_true', Bool.and_eq_false_iff, beq_eq_false_iff_ne]
        by_cases h1 : p.i = id
        · right; intro h3; exact e (Prod.ext (hp.1.symm.trans h1) (hp.2.symm.trans h3))
        · exact .inl h1
      have hn : hitL q.1 q.2 ⟨id, key, mode⟩ = false := by
        cases h : hitL q.1 q.2 ⟨id, key, mode⟩ with
        | false => rfl
        | true =>
          simp only [hitL, Bool.and_eq_true, beq_iff_eq] at h
          exact absurd (Prod.ext h.1.symm h.2.symm) e
      rw [hf, List.find?_cons, hn]
      show _ = Option.map (fun y : LockI => Value.int .i64 y.m) (l.find? (hitL q.1 q.2))
      cases l.find? (hitL q.1 q.2) <;> simp
theorem askL_ok {l : List LockI} {id key mode : Int} (hok : LockOk l) (h1 : wfI id) (h2 : wfI key) : LockOk (askL l id key mode) := by
  unfold askL
  split
  · rename_i hc
    split
    · exact hok
    · intro x hx
      rcases List.mem_append.1 hx with hx | hx
      · exact hok x (List.mem_filter.1 hx).1
      · rw [List.mem_singleton.1 hx]; exact ⟨h1, h2, canL_mode hc⟩
  · exact hok
theorem askL_once {l : List LockI} {id key mode : Int} (ho : Once39 l) : Once39 (askL l id key mode) := by
  unfold askL
  split
  · split
    · exact ho
    · have key0 : ∀ x ∈ l.filter (fun x => !hitL id key x), ∀ y : LockI, y = ⟨id, key, mode⟩ → x.i = y.i → x.k = y.k → False := fun x hx y hy h1 h2 => by
        subst hy
        have := (List.mem_filter.1 hx).2
        simp [hitL] at this
        exact this.elim (fun h => h h1) (fun h => h h2)
      intro x hx y hy h1 h2
      rcases List.mem_append.1 hx with hx | hx <;> rcases List.mem_append.1 hy with hy | hy
      · exact ho x (List.mem_filter.1 hx).1 y (List.mem_filter.1 hy).1 h1 h2
      · exact (key0 x hx y (List.mem_singleton.1 hy) h1 h2).elim
      · exact (key0 y hy x (List.mem_singleton.1 hx) h1.symm h2.symm).elim
      · rw [List.mem_singleton.1 hx, List.mem_singleton.1 hy]
  · exact ho
theorem freeL_ok {l : List LockI} {id : Int} (hok : LockOk l) : LockOk (freeL l id) := fun x hx => hok x (List.mem_filter.1 hx).1
theorem freeL_once {l : List LockI} {id : Int} (ho : Once39 l) : Once39 (freeL l id) := fun x hx y hy => ho x (List.mem_filter.1 hx).1 y (List.mem_filter.1 hy).1
theorem freeL_len (l : List LockI) (id : Int) : (freeL l id).length ≤ l.length := List.length_filter_le _ _
theorem freeL_held {l : List LockI} {id : Int} (q : Int × Int) : heldM (freeL l id) q = if q.1 = id then none else heldM l q := by
  unfold heldM freeL
  by_cases h : q.1 = id
  · rw [if_pos h]
    have : (l.filter (fun x => x.i != id)).find? (hitL q.1 q.2) = none := by
      rw [List.find?_eq_none]
      intro x hx
      have := (List.mem_filter.1 hx).2
      simp at this
      simp [hitL, h, this]
    rw [this]; rfl
  · rw [if_neg h]
    rw [find_filter_keep (fun p hp => ?_) l]
    simp only [hitL, Bool.and_eq_true, beq_iff_eq] at hp
    simp; rw [hp.1]; exact h
theorem once_nil : Once39 [] := fun x hx => by cases hx
theorem TCan_is {W : World} {c b n : Nat} {l : List LockI} (h : TabIs W c b n l) (ho : Once39 l) (hn : n ≤ 1000) {id key mode : Int} (h1 : wfI id) (h2 : wfI key) :
    Calls Try.prog 56 #[.pointer (some ⟨c, 0, none⟩), .int .i64 id, .int .i64 key, .int .i64 mode] W (Rets (BoolPost (canL l id key mode) W)) := by
  have HB := Lib.hid (TBlocks_is h ho hn (mode := mode) h1 h2)
  have HI := Lib.hid (is_tab h.box)
  have hz := len_zero (blkL l id key mode)
  have HC := Lib.hid (show canL l id key mode = (isMode mode && (blkL l id key mode).isEmpty) from rfl)
  generalize canL l id key mode = cb at HC ⊢
  generalize blkL l id key mode = bl at HB HC hz
  clear h
  cases m1 : (mode == 1) with
  | true =>
    have hm : isMode mode = true := by simp [isMode, m1]
    rw [hm, ← hz] at HC
    clear hm hz
    go_enter Try.func56, Try.ntmps56
    go_wp2_with (first | (go_at_call 60; refine (HI.out).mono ?_; rintro e w' ⟨rfl, rfl⟩) | (go_at_call 24; refine (HB.out).mono ?_; rintro e w' ⟨v, rfl, hf2, ho2⟩; obtain ⟨A2, c2, rfl⟩ := own_form ho2))
    go_ret
    refine ⟨_, rfl, ?_, hf2⟩
    rw [HC.out]; simp
  | false =>
    have n1 : ¬ mode = 1 := by simpa using m1
    cases m2 : (mode == 2) with
    | true =>
      have hm : isMode mode = true := by simp [isMode, m2]
      rw [hm, ← hz] at HC
      clear hm hz
      go_enter Try.func56, Try.ntmps56
      go_wp2_with (first | (go_at_call 60; refine (HI.out).mono ?_; rintro e w' ⟨rfl, rfl⟩) | (go_at_call 24; refine (HB.out).mono ?_; rintro e w' ⟨v, rfl, hf2, ho2⟩; obtain ⟨A2, c2, rfl⟩ := own_form ho2))
      go_ret
      refine ⟨_, rfl, ?_, hf2⟩
      rw [HC.out]; simp
    | false =>
      have hm : isMode mode = false := by simp [isMode, m1, m2]
      have n2 : ¬ mode = 2 := by simpa using m2
      rw [hm] at HC
      clear hm hz
      go_enter Try.func56, Try.ntmps56
      go_wp2_with (go_at_call 60; refine (HI.out).mono ?_; rintro e w' ⟨rfl, rfl⟩)
      go_ret
      refine ⟨_, rfl, ?_, Fr.refl _ _⟩
      rw [HC.out]; rfl
theorem TCan_none {W : World} {v : Value} (h : NoTab W v) (id key mode : Int) :
    Calls Try.prog 56 #[v, .int .i64 id, .int .i64 key, .int .i64 mode] W fun e w' => e = .returned (.bool false) ∧ W = w' := by
  have HI := Lib.hid (is_none h)
  clear h
  go_enter Try.func56, Try.ntmps56
  go_wp2_with (go_at_call 60; refine (HI.out).mono ?_; rintro e w' ⟨rfl, rfl⟩)
  go_ret
  exact ⟨rfl, rfl⟩
theorem TAsk_none {W : World} {v : Value} (h : NoTab W v) (id key mode : Int) :
    Calls Try.prog 54 #[v, .int .i64 id, .int .i64 key, .int .i64 mode] W fun e w' => e = .returned (.bool false) ∧ W = w' := by
  have HI := Lib.hid (TCan_none h id key mode)
  clear h
  go_enter Try.func54, Try.ntmps54
  go_wp2_with (go_at_call 56; refine (HI.out).mono ?_; rintro e w' ⟨rfl, rfl⟩)
  go_ret
  exact ⟨rfl, rfl⟩
def TAskPost (c b n : Nat) (l : List LockI) (r : Bool) (W : World) (v : Value) (w' : World) : Prop := v = .bool r ∧ Fr (fun k => k = b) W w' ∧ TabIs w' c b n l
set_option maxHeartbeats 4000000 in
theorem TAsk_is {W : World} {c b n : Nat} {l : List LockI} (h : TabIs W c b n l) (ho : Once39 l) (hn : n ≤ 1000) {id key mode : Int} (h1 : wfI id) (h2 : wfI key) :
    Calls Try.prog 54 #[.pointer (some ⟨c, 0, none⟩), .int .i64 id, .int .i64 key, .int .i64 mode] W (Rets (TAskPost c b (n + 1) (askL l id key mode) (canL l id key mode) W)) := by
  have HC := Lib.hid (TCan_is h ho hn (mode := mode) h1 h2)
  have HT := Lib.hid h
  cases hcan : canL l id key mode with
  | false =>
    have e : askL l id key mode = l := by unfold askL; rw [hcan]; rfl
    rw [e]
    rw [hcan] at HC
    clear h hcan e
    go_enter Try.func54, Try.ntmps54
    go_wp2_with (go_at_call 56; refine (HC.out).mono ?_; rintro e w1 ⟨v, rfl, rfl, hf1⟩)
    go_ret
    have hT := HT.out.fr0 hf1
    exact ⟨_, rfl, rfl, hf1.mono (fun _ _ h => h.elim), ⟨hT.box, hT.map.mono (by omega), hT.ok⟩⟩
  | true =>
    have HA := Lib.hid (askL_held h.ok hcan)
    have HK := Lib.hid (askL_ok (mode := mode) h.ok h1 h2)
    rw [hcan] at HC
    have hval : (heldM l (id, key)).getD (.int .i64 0) = .int .i64 (holdsL l id key) := by
      unfold heldM holdsL
      cases l.find? (hitL id key) <;> rfl
    generalize askL l id key mode = al at HA HK ⊢
    generalize holdsL l id key = hv at HA hval
    clear h hcan
    go_enter Try.func54, Try.ntmps54
    go_wp2_with (go_at_call 56; refine (HC.out).mono ?_; rintro e w1 ⟨v, rfl, rfl, hf1⟩)
    obtain ⟨w2, hw2⟩ : ∃ w2, w2 = w1.alloc (.cells #[.int .i64 id, .int .i64 key] 93) := ⟨_, rfl⟩
    have hf2 : Fr0 w1 w2 := hw2 ▸ fr_alloc _ _ _
    have hT2 : TabIs w2 c b n l := (HT.out.fr0 hf1).fr0 hf2
    have hp2 : w2.heap[w1.heap.size]? = some (.cells #[.int .i64 id, .int .i64 key] 93 (0, 0)) := hw2 ▸ World.alloc_heap_new w1 _
    rw [← hw2]
    have c0 := hT2.box.cell
    have c1 : w2.cell? ⟨w1.heap.size, 0, none⟩ = some (.int .i64 id) := by simp [World.cell?, hp2]
    have c2 : w2.cell? ⟨w1.heap.size, 1, none⟩ = some (.int .i64 key) := by simp [World.cell?, hp2]
    have hM3 : MapIs Try.prog 93 pairL pairO w2.drew b n (heldM l) := hT2.map.fr0 (fr_drew _ _)
    have hlk := hM3.look1 lockK Try.underlying49 (zero_int _) (x := (id, key)) ⟨h1, h2⟩
    rw [hval] at hlk
    have HM3 := Lib.hid hM3
    have HT2 := Lib.hid hT2
    clear hM3 hT2 hw2 HT HC hp2 hval
    refine wp_region_still_tail 13 (by kernel_rfl) (by kernel_rfl) ?_
    simp only [List.take_succ_cons, List.take_zero, List.drop_succ_cons, List.drop_zero]
    change wpStill _ _ (World.drew _) _ _ _
    repeat still_step
    refine wpStill_nil ?_
    change wpList _ _ _ _ _ (World.drew _)
    go_wp2_with (at_mapUpdate; refine wpList_store_m rfl _ _ _ rfl lockK Try.underlying49 HM3.out (by unfold maxLen; omega) rfl (y := (id, key)) ⟨h1, h2⟩ rfl rfl (fun w4 hm4 hf4 => ?_))
    go_ret
    have hmx : max hv mode = maxI hv mode := by unfold maxI; split <;> omega
    rw [hmx] at hm4
    exact ⟨_, rfl, rfl, (((hf1.trans0 hf2).drew).mono (fun _ _ h => h.elim)).trans (T := fun k => k = b) hf4 (fun j _ e => e), ⟨Box.fr_map (HT2.out.box.fr0 (fr_drew _ _)) HM3.out hf4, hm4.congr (fun q _ => (HA.out q).symm), HK.out⟩⟩
theorem IntsAt.fr_map {β : Type} [DecidableEq β] {W W' : World} {A : Option Addr} {l : List Int} {P : Program} {kt : TypeId} {lit : β → Lit} {ok : β → Prop} {b n : Nat} {m : β → Option Value} (h : IntsAt W A l)
    (hm : MapIs P kt lit ok W b n m) (f : Fr (fun j => j = b) W W') : IntsAt W' A l := by
  refine ⟨h.1, ?_⟩
  by_cases h0 : l = []
  · exact .inl h0
  · rcases h.2 with e | ⟨q, o, e, hc⟩
    · exact absurd e h0
    · refine .inr ⟨q, o, e, fun j hj => f.cell (hc j hj) ?_⟩
      rintro rfl
      have := hc j hj
      rw [hm.no_cell] at this
      cases this
theorem TFree_none {W : World} {v : Value} (h : NoTab W v) (id : Int) :
    Calls Try.prog 55 #[v, .int .i64 id] W fun e w' => e = .returned (.tuple #[]) ∧ W = w' := by
  have HI := Lib.hid (TKeys_none h id)
  clear h
  go_enter Try.func55, Try.ntmps55
  go_wp2_with (go_at_call 22; refine (HI.out).mono ?_; rintro e w' ⟨rfl, rfl⟩)
  go_loopw [10] (fun v10 wr => v10 = .int .i64 0 ∧ wr = W) (fun _ _ => 0)
  case atStart => exact ⟨rfl, rfl⟩
  case round =>
    obtain ⟨rfl, rfl⟩ := hrel
    go_wp2_with fail
    go_end0
    exact ⟨rfl, rfl⟩
def TFreePost (c b n : Nat) (l : List LockI) (W : World) (v : Value) (w' : World) : Prop := v = .tuple #[] ∧ Fr (fun k => k = b) W w' ∧ TabIs w' c b n l
set_option maxHeartbeats 4000000 in
theorem TFree_is {W : World} {c b n : Nat} {l : List LockI} (h : TabIs W c b n l) (ho : Once39 l) (hn : n ≤ 1000) (hll : l.length ≤ 1000) {id : Int} (h1 : wfI id) :
    Calls Try.prog 55 #[.pointer (some ⟨c, 0, none⟩), .int .i64 id] W (Rets (TFreePost c b n (freeL l id) W)) := by
  have HC := Lib.hid (TKeys_is h ho hn h1)
  have HT := Lib.hid h
  have hks : (ofI (keysR l id)).length ≤ 1000 := Nat.le_trans (len_ofI _) (Nat.le_trans (keysR_len _ _) hll)
  have HW := Lib.hid (show ∀ x ∈ ofI (keysR l id), wfI x from fun x hx => by
    obtain ⟨q, v, hq, _, _, rfl⟩ := (keysR_came h.ok ho id x).1 (mem_ofI.1 hx); exact hq.2)
  have HE := Lib.hid (show ∀ q, pairO q → (if q.1 = id ∧ q.2 ∈ ofI (keysR l id) then none else heldM l q) = heldM (freeL l id) q from fun q hq => by
    rw [freeL_held]
    by_cases e : q.1 = id
    · rw [if_pos e]
      split
      · rfl
      · rename_i hno
        cases hh : heldM l q with
        | none => rfl
        | some v => exact absurd ⟨e, mem_ofI.2 ((keysR_came h.ok ho id q.2).2 ⟨q, v, hq, hh, by simpa using e, rfl⟩)⟩ hno
    · rw [if_neg e, if_neg (fun h => e h.1)])
  clear h
  generalize ofI (keysR l id) = ks at HC hks HW HE
  go_enter Try.func55, Try.ntmps55
  go_wp2_with (go_at_call 22; refine (HC.out).mono ?_; rintro e w1 ⟨v, rfl, hf1, ho1⟩; obtain ⟨A1, c1, rfl⟩ := own_form ho1)
  have hI1 := own_intsI ho1 (by omega)
  have hT1 := HT.out.fr0 hf1
  have HB := Lib.hid hT1.box
  have HI := Lib.hid hI1
  clear HT HC
  go_loopw [10, 5] (fun v10 v5 wr => ∃ j : Nat, j ≤ ks.length ∧ v10 = .int .i64 j ∧ Fr (fun k => k = b) w1 wr ∧ MapIs Try.prog 93 pairL pairO wr b n (fun q => if q.1 = id ∧ q.2 ∈ ks.take j then none else heldM l q)) (fun v10 _ _ => ks.length - (intOf v10).toNat)
  case atStart => exact ⟨0, by omega, rfl, Fr.refl _ _, hT1.map.congr (fun q _ => by simp)⟩
  case round =>
    obtain ⟨j, hj, rfl, hf, hm⟩ := hrel
    by_cases hlt : j < ks.length
    · obtain ⟨q, o, rfl, hc⟩ := (HI.out.fr_map hT1.map hf).at_ hlt
      have hlt' : (j : Int) < (ks.length : Int) := by omega
      have hTk := Lib.hid (take_succ_I ks j hlt)
      have hw : wfI (ks.getD j 0) := HW.out _ (by rw [List.getD_eq_getElem?_getD, List.getElem?_eq_getElem hlt]; exact List.getElem_mem hlt)
      generalize ks.getD j 0 = x at hc hTk hw
      have c0 := (HB.out.fr_map hT1.map hf).cell
      go_wp2_with (at_delete; refine wpList_drop_m rfl _ _ rfl lockK Try.underlying49 hm rfl (y := (id, x)) ⟨h1, hw⟩ rfl (fun w4 hm4 hf4 => ?_))
      go_roundw
      case rel =>
        refine ⟨j + 1, by omega, by go_num, hf.trans hf4 (fun j _ e => e), hm4.congr (fun p hp => ?_)⟩
        rw [hTk.out]
        unfold upd
        by_cases e : p = (id, x)
        · subst e; simp
        · rw [if_neg e]
          have : (p.1 = id ∧ p.2 ∈ ks.take j ++ [x]) ↔ (p.1 = id ∧ p.2 ∈ ks.take j) := by
            rw [List.mem_append, List.mem_singleton]
            constructor
            · rintro ⟨a1, a2 | a2⟩
              · exact ⟨a1, a2⟩
              · exact absurd (Prod.ext a1 a2) e
            · rintro ⟨a1, a2⟩; exact ⟨a1, .inl a2⟩
          simp only [this]
      case measure => simp [intOf]; omega
    · have hje : j = ks.length := by omega
      rw [hje, List.take_of_length_le (Nat.le_refl _)] at hm
      go_wp2_with fail
      go_end0
      exact ⟨_, rfl, rfl, (hf1.mono (fun _ _ h => h.elim)).trans (T := fun k => k = b) hf (fun j _ e => e), ⟨HB.out.fr_map hT1.map hf, hm.congr HE.out, freeL_ok hT1.ok⟩⟩
end Go.Proofs.Ytekigojbkhjdbaa
