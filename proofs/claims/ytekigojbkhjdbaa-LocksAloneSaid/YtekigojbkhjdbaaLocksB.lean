/- The program's locks: the keys of a transaction, and who is in the way: each goes through the table, in whatever order. -/
import Derived.Test.YtekigojbkhjdbaaLocks
namespace Go.Proofs.Ytekigojbkhjdbaa
set_option linter.all false
open Go.RowKit Go.Maps
set_option maxRecDepth 100000

theorem SetAt.grow {B : Nat} {W W' : World} {A : Option Addr} {c : Nat} {zs : List Int} (h : SetAt W A c zs) (f : Grow B W W') : SetAt W' A c zs := ⟨h.ints.grow f, h.plain, h.rise, h.small, h.cap⟩
theorem upd_same {α β : Type} [DecidableEq α] (m : α → β) (x : α) (y : β) : upd m x y x = y := if_pos rfl
theorem upd_other {α β : Type} [DecidableEq α] (m : α → β) (x z : α) (y : β) (h : z ≠ x) : upd m x y z = m z := if_neg h
/-- What of the keys for which p holds has come. -/
def CameBy (p : Int × Int → Value → Bool) (g : Int × Int → Int) (m : Int × Int → Option Value) (left : Int × Int → Bool) (zs : List Int) : Prop :=
  ∀ x, x ∈ zs ↔ ∃ q v, pairO q ∧ m q = some v ∧ p q v = true ∧ left q = false ∧ g q = x
section
variable {p : Int × Int → Value → Bool} {g : Int × Int → Int} {m : Int × Int → Option Value} {left : Int × Int → Bool} {zs : List Int}
theorem CameBy.start : CameBy p g m (fun x => (m x).isSome) [] := by
  intro x
  constructor
  · intro h; cases h
  · rintro ⟨q, v, _, hq, _, hl, _⟩; simp [hq] at hl
theorem CameBy.yes (h : CameBy p g m left zs) {q : Int × Int} {v : Value} (hq : pairO q) (hm : m q = some v) (hp : p q v = true) : CameBy p g m (upd left q false) (ofI (zs ++ ofI [g q])) := by
  intro x
  rw [mem_ofI, List.mem_append, mem_ofI, List.mem_singleton, h x]
  constructor
  · rintro (⟨q', v', h1, h2, h3, h4, h5⟩ | rfl)
    · refine ⟨q', v', h1, h2, h3, ?_, h5⟩
      unfold upd; split <;> simp_all
    · exact ⟨q, v, hq, hm, hp, upd_same _ _ _, rfl⟩
  · rintro ⟨q', v', h1, h2, h3, h4, h5⟩
    by_cases e : q' = q
    · subst e; exact .inr h5.symm
    · rw [upd_other _ _ _ _ e] at h4; exact .inl ⟨q', v', h1, h2, h3, h4, h5⟩
theorem CameBy.no (h : CameBy p g m left zs) {q : Int × Int} {v : Value} (hm : m q = some v) (hp : p q v = false) : CameBy p g m (upd left q false) zs := by
  intro x
  rw [h x]
  constructor
  · rintro ⟨q', v', h1, h2, h3, h4, h5⟩
    refine ⟨q', v', h1, h2, h3, ?_, h5⟩
    unfold upd; split <;> simp_all
  · rintro ⟨q', v', h1, h2, h3, h4, h5⟩
    by_cases e : q' = q
    · subst e; rw [hm] at h2; cases h2; rw [hp] at h3; cases h3
    · rw [upd_other _ _ _ _ e] at h4; exact ⟨q', v', h1, h2, h3, h4, h5⟩
theorem CameBy.done (h : CameBy p g m left zs) (hr : zs.Pairwise (· < ·)) (hl : ∀ q, pairO q → left q = false) {r : List Int} (hm : ∀ x, x ∈ r ↔ ∃ q v, pairO q ∧ m q = some v ∧ p q v = true ∧ g q = x) : zs = ofI r := by
  refine rise_extI hr (rise_ofI _) (fun x => ?_)
  rw [mem_ofI, h x, hm x]
  constructor
  · rintro ⟨q', v', h1, h2, h3, h4, h5⟩; exact ⟨q', v', h1, h2, h3, h5⟩
  · rintro ⟨q', v', h1, h2, h3, h5⟩; exact ⟨q', v', h1, h2, h3, hl _ h1, h5⟩
end
/-- A row in which no pair stands twice. -/
def Once39 (l : List LockI) : Prop := ∀ x ∈ l, ∀ y ∈ l, x.i = y.i → x.k = y.k → x = y
theorem heldM_some {l : List LockI} (ho : Once39 l) {q : Int × Int} {v : Value} : heldM l q = some v ↔ ∃ x ∈ l, x.i = q.1 ∧ x.k = q.2 ∧ v = .int .i64 x.m := by
  unfold heldM
  constructor
  · intro h
    obtain ⟨x, hx, rfl⟩ := Option.map_eq_some_iff.1 h
    have h1 := List.find?_some hx
    simp [hitL] at h1
    exact ⟨x, List.mem_of_find?_eq_some hx, h1.1, h1.2, rfl⟩
  · rintro ⟨x, hx, h1, h2, rfl⟩
    have hs : (l.find? (hitL q.1 q.2)).isSome = true := List.find?_isSome.2 ⟨x, hx, by simp [hitL, h1, h2]⟩
    obtain ⟨y, hy⟩ := Option.isSome_iff_exists.1 hs
    have h3 := List.find?_some hy
    simp [hitL] at h3
    have e := ho x hx y (List.mem_of_find?_eq_some hy) (h1.trans h3.1.symm) (h2.trans h3.2.symm)
    rw [hy, e]; rfl
theorem keysR_came {l : List LockI} (hok : LockOk l) (ho : Once39 l) (id : Int) (x : Int) : x ∈ keysR l id ↔ ∃ q v, pairO q ∧ heldM l q = some v ∧ (q.1 == id) = true ∧ q.2 = x := by
  unfold keysR
  simp only [List.mem_map, List.mem_filter, beq_iff_eq]
  constructor
  · rintro ⟨y, ⟨hy, h1⟩, rfl⟩
    exact ⟨(y.i, y.k), .int .i64 y.m, ⟨(hok y hy).1, (hok y hy).2.1⟩, (heldM_some ho).2 ⟨y, hy, rfl, rfl, rfl⟩, h1, rfl⟩
  · rintro ⟨q, v, _, hm, h1, rfl⟩
    obtain ⟨y, hy, e1, e2, _⟩ := (heldM_some ho).1 hm
    exact ⟨y, ⟨hy, e1.trans h1⟩, e2⟩
def wayV (id key mode : Int) (q : Int × Int) (v : Value) : Bool := q.2 == key && q.1 != id && (mode == 2 || intOf v == 2)
theorem blkR_came {l : List LockI} (hok : LockOk l) (ho : Once39 l) (id key mode : Int) (x : Int) : x ∈ blkR l id key mode ↔ ∃ q v, pairO q ∧ heldM l q = some v ∧ wayV id key mode q v = true ∧ q.1 = x := by
  unfold blkR
  simp only [List.mem_map, List.mem_filter]
  have hv : ∀ a : Int, (intOf (Value.int IntKind.i64 a) == 2) = (a == 2) := fun a => rfl
  constructor
  · rintro ⟨y, ⟨hy, h1⟩, rfl⟩
    refine ⟨(y.i, y.k), .int .i64 y.m, ⟨(hok y hy).1, (hok y hy).2.1⟩, (heldM_some ho).2 ⟨y, hy, rfl, rfl, rfl⟩, ?_, rfl⟩
    unfold wayV; rw [hv]; exact h1
  · rintro ⟨q, v, _, hm, h1, rfl⟩
    obtain ⟨y, hy, e1, e2, rfl⟩ := (heldM_some ho).1 hm
    refine ⟨y, ⟨hy, ?_⟩, e1⟩
    unfold wayV at h1; rw [hv] at h1
    unfold inWay; rw [e1, e2]; exact h1
theorem with4 {a b c d G : Prop} (h : a ∧ b ∧ c ∧ d) (k : a → b → c → d → G) : G := k h.1 h.2.1 h.2.2.1 h.2.2.2
theorem len_one {x : Int} : [x].length ≤ 140737488355328 := by simp
theorem sum_one {zs : List Int} {x : Int} (h : zs.length ≤ 1000) : zs.length + [x].length ≤ 1000000 := by simp; omega
theorem round_facts {W wr w1 : World} {b n cnt cz : Nat} {left : Int × Int → Bool} {m : Int × Int → Option Value} {A : Option Addr} {zs : List Int} (hgo : MapGo Try.prog 93 pairL pairO wr b (W.heap.size + 1) n m left cnt)
    (hgr : wr.grownBy w1 (some (W.heap.size + 1))) (hbx : Box wr W.heap.size 76 (.slice A zs.length cz)) (hset : SetAt wr A cz zs) (hf : Fr0 W wr) (hsmall : zs.length ≤ 1000) (hs1 : w1.heap.size = wr.heap.size) (q : Int × Int) (x : Int) :
    Box w1 W.heap.size 76 (.slice A zs.length cz) ∧ (w1.alloc (.cells #[.int .i64 q.1, .int .i64 q.2] 93)).cell? ⟨W.heap.size, 0, none⟩ = some (.slice A zs.length cz) ∧ Fr0 W w1 ∧
    Hid (Calls Try.prog 42 #[setV A zs.length cz, .slice (some ⟨wr.heap.size + 1, 0, none⟩) 1 1]
      ((w1.alloc (.cells #[.int .i64 q.1, .int .i64 q.2] 93)).alloc (.cells #[.int .i64 x] 3)) (Rets (SetPost ((w1.alloc (.cells #[.int .i64 q.1, .int .i64 q.2] 93)).alloc (.cells #[.int .i64 x] 3)) (ofI (zs ++ ofI [x]))))) := by
  have hbx1 : Box w1 W.heap.size 76 (.slice A zs.length cz) := iter_cells hgo hgr hbx
  have hset1 := hset.grow (grow_iter hgo hgr (Nat.zero_le _))
  refine ⟨hbx1, (hbx1.fr0 (fr_alloc _ _ _)).cell, Fr0.iter hf (Nat.le_succ _) hgr, Lib.hid ?_⟩
  have e : wr.heap.size + 1 = (w1.alloc (.cells #[.int .i64 q.1, .int .i64 q.2] 93)).heap.size := by simp [hs1]
  rw [e]
  exact SWith_is (l := [x]) (hset1.fr0 ((fr_alloc _ _ _).alloc _)) (ints_lit (World.alloc_heap_new _ _) len_one) (fun e => by cases e) (sum_one hsmall)
set_option maxHeartbeats 4000000 in
theorem TKeys_is {W : World} {c b n : Nat} {l : List LockI} (h : TabIs W c b n l) (ho : Once39 l) (hn : n ≤ 1000) {id : Int} (h1 : wfI id) :
    Calls Try.prog 22 #[.pointer (some ⟨c, 0, none⟩), .int .i64 id] W (Rets (IListPost W (ofI (keysR l id)))) := by
  have HT := Lib.hid h
  have HO := Lib.hid (keysR_came h.ok ho id)
  have c0 : (W.alloc (.cells #[.slice none 0 0] 76)).cell? ⟨c, 0, none⟩ = some (.map (some b)) := (fr_alloc (fun _ => False) W _).cell h.box.cell (fun x => x)
  have HM : Hid (MapIs Try.prog 93 pairL pairO (W.alloc (.cells #[.slice none 0 0] 76)) b n (heldM l)) := Lib.hid (h.map.fr0 (fr_alloc _ _ _))
  have HI := Lib.hid (is_tab h.box)
  have hb0 : Box (W.alloc (.cells #[.slice none 0 0] 76)) W.heap.size 76 (.slice none 0 0) := Box.new _ _ _
  have HB0 := Lib.hid hb0
  clear h hb0
  go_enter Try.func22, Try.ntmps22
  go_wp2_with (first | (go_at_call 60; refine (HI.out).mono ?_; rintro e w' ⟨rfl, rfl⟩) | (at_range; refine wpList_range_m rfl _ rfl lockK Try.underlying49 HM.out rfl (fun w0 cnt0 hcn hgo0 hfr0 hsr0 => ?_)))
  go_frame
  have hB0 : Box w0 W.heap.size 76 (.slice none 0 0) := HB0.out.fr0 hfr0
  have hF0 : Fr0 W w0 := (fr_alloc _ _ _).trans0 hfr0
  have hsw : w0.heap.size = W.heap.size + 2 := by rw [hsr0]; simp
  have hS0 : SetAt w0 none 0 [] := ⟨⟨by simp, .inl rfl⟩, fun _ => ⟨rfl, rfl⟩, List.Pairwise.nil, by simp, Nat.le_refl _⟩
  have e1 : (W.alloc (.cells #[.slice none 0 0] 76)).heap.size = W.heap.size + 1 := by simp
  rw [e1] at hgo0 ⊢
  clear HM HB0 c0 HI
  go_loopw [6] (fun v6 wr => ∃ (left : Int × Int → Bool) (cnt : Nat) (zs : List Int) (A : Option Addr) (cz : Nat), MapGo Try.prog 93 pairL pairO wr b (W.heap.size + 1) n (heldM l) left cnt ∧ Box wr W.heap.size 76 (.slice A zs.length cz) ∧ SetAt wr A cz zs ∧ zs.length + cnt ≤ n ∧ Fr0 W wr ∧ W.heap.size + 2 ≤ wr.heap.size ∧
      Hid (CameBy (fun q _ => q.1 == id) (fun q => q.2) (heldM l) left zs)) (fun _ wr => wr.rangeLeft b (W.heap.size + 1))
  case atStart => exact ⟨_, cnt0, [], none, 0, hgo0, hB0, hS0, by simpa using hcn, hF0, by omega, Lib.hid CameBy.start⟩
  case round =>
    obtain ⟨left, cnt, zs, A, cz, hgo, hbx, hset, hzl, hf, hsz, HC⟩ := hrel
    have z0 := hbx.cell
    have hsmall : zs.length ≤ 1000 := by omega
    have HNE := Lib.hid (hgo.is.ne_cells hbx)
    go_wp2_with (first
      | (go_at_call 43; refine (SList_is hset).mono ?_; rintro e w2 ⟨v2, rfl, hf2, ho2⟩)
      | (go_at_call 42; refine (HWt.out).mono ?_; rintro e w2 ⟨_, rfl, A2, c2, rfl, hf2, hset2, hnew2⟩; have hbx2 := (hbx1.fr0 ((fr_alloc _ _ _).alloc _)).fr0 hf2; have z2 := hbx2.cell; have y2 := hbx2.frozen)
      | (at_next; refine wpList_next_m (fun q _ => q.1 == id) rfl _ rfl lockK hgo rfl (fun hl0 => ?_) (fun q v w1 cnt1 hp hq hlq hmq hgo1 hlt hgr hs1 hen => with4 (round_facts hgo hgr hbx hset hf hsmall hs1 q (q.2)) (fun hbx1 z1 hF1 HWt => ?_)) (fun q v w1 cnt1 hp hq hlq hmq hgo1 hlt hgr hs1 hen => with4 (round_facts hgo hgr hbx hset hf hsmall hs1 q (q.2)) (fun hbx1 z1 hF1 HWt => ?_))))
    · go_ret
      have hR := HC.out.done hset.rise hl0 HO.out
      rw [← hR]
      exact ⟨_, rfl, hf.trans0 hf2, own_base ho2 hf.size⟩
    · obtain ⟨wp, hwp⟩ : ∃ wp, wp = (w1.alloc (.cells #[.int .i64 q.1, .int .i64 q.2] 93)).alloc (.cells #[.int .i64 q.2] 3) := ⟨_, rfl⟩
      rw [← hwp] at hf2 hnew2
      have hfp : Fr0 w1 wp := hwp ▸ (fr_alloc _ _ _).alloc _
      have hA2 : Fr0 w1 w2 := hfp.trans0 hf2
      have hg2 := hgo1.fr0 hA2
      have hFS : Fr (fun k => k = W.heap.size) w2 (w2.setCell ⟨W.heap.size, 0, none⟩ (.slice A2 (ofI (zs ++ ofI [q.2])).length c2)) := fr_setCell _ _ _ (fun _ => rfl)
      have hg3 := hg2.fr hFS (fun e => HNE.out e.symm)
      have hpz := hfp.size
      have hlen : (ofI (zs ++ ofI [q.2])).length ≤ zs.length + 1 := by
        refine Nat.le_trans (len_ofI _) ?_
        rw [List.length_append]
        have := len_ofI [q.2]
        simp at this; omega
      go_roundw
      case rel =>
        refine ⟨_, cnt1, _, A2, c2, hg3, hbx2.set _, hset2.fr hFS (fun a e h => by have := hnew2 a e; omega), by omega, (hF1.trans0 hA2).trans hFS (fun j hj e => by omega), ?_, Lib.hid (HC.out.yes hq hmq hp)⟩
        have := hA2.size
        simp; omega
      case measure => rw [hg3.left_eq, hgo.left_eq]; omega
    · have hg3 := hgo1.fr0 (fr_alloc (fun _ => False) w1 (.cells #[.int .i64 q.1, .int .i64 q.2] 93))
      go_roundw
      case rel =>
        exact ⟨_, cnt1, zs, A, cz, hg3, hbx1.fr0 (fr_alloc _ _ _), (hset.grow (grow_iter hgo hgr (Nat.zero_le _))).fr0 (fr_alloc _ _ _), by omega, hF1.alloc _, by simp; omega, Lib.hid (HC.out.no hmq hp)⟩
      case measure => rw [hg3.left_eq, hgo.left_eq]; omega
theorem heldM_int {l : List LockI} {q : Int × Int} {v : Value} (h : heldM l q = some v) : ∃ c : Int, v = .int .i64 c := by
  unfold heldM at h
  obtain ⟨x, _, rfl⟩ := Option.map_eq_some_iff.1 h
  exact ⟨_, rfl⟩
theorem way_yes1 {id key c : Int} {q : Int × Int} {G : Prop} (h : wayV id key 1 q (.int .i64 c) = true) (k : (q.2 == key) = true → (q.1 != id) = true → (c == 2) = true → G) : G := by
  unfold wayV at h; simp only [Bool.and_eq_true, Bool.or_eq_true] at h
  exact k h.1.1 h.1.2 (h.2.resolve_left (by decide))
theorem way_no1 {id key c : Int} {q : Int × Int} {G : Prop} (h : wayV id key 1 q (.int .i64 c) = false) (k1 : (q.2 == key) = false → G) (k2 : (q.2 == key) = true → (q.1 != id) = false → G) (k3 : (q.2 == key) = true → (q.1 != id) = true → (c == 2) = false → ¬ c = 2 → G) : G := by
  unfold wayV at h
  cases h1 : (q.2 == key) with
  | false => exact k1 h1
  | true =>
    cases h2 : (q.1 != id) with
    | false => exact k2 h1 h2
    | true =>
      rw [h1, h2] at h
      have h3 : (c == 2) = false := by simpa [intOf] using h
      exact k3 h1 h2 h3 (by simpa using h3)
theorem way_yes2 {id key c : Int} {q : Int × Int} {G : Prop} (h : wayV id key 2 q (.int .i64 c) = true) (k : (q.2 == key) = true → (q.1 != id) = true → G) : G := by
  unfold wayV at h; simp only [Bool.and_eq_true, Bool.or_eq_true] at h
  exact k h.1.1 h.1.2
theorem way_no2 {id key c : Int} {q : Int × Int} {G : Prop} (h : wayV id key 2 q (.int .i64 c) = false) (k1 : (q.2 == key) = false → G) (k2 : (q.2 == key) = true → (q.1 != id) = false → G) : G := by
  unfold wayV at h
  cases h1 : (q.2 == key) with
  | false => exact k1 h1
  | true =>
    cases h2 : (q.1 != id) with
    | false => exact k2 h1 h2
    | true => rw [h1, h2] at h; simp at h
theorem TBlocks_none {W : World} {v : Value} (h : NoTab W v) (id key mode : Int) :
    Calls Try.prog 24 #[v, .int .i64 id, .int .i64 key, .int .i64 mode] W fun e w' => e = .returned (.slice none 0 0) ∧ W = w' := by
  have HI := Lib.hid (is_none h)
  clear h
  go_enter Try.func24, Try.ntmps24
  go_wp2_with (go_at_call 60; refine (HI.out).mono ?_; rintro e w' ⟨rfl, rfl⟩)
  go_ret
  exact ⟨rfl, rfl⟩
theorem TKeys_none {W : World} {v : Value} (h : NoTab W v) (id : Int) :
    Calls Try.prog 22 #[v, .int .i64 id] W fun e w' => e = .returned (.slice none 0 0) ∧ W = w' := by
  have HI := Lib.hid (is_none h)
  clear h
  go_enter Try.func22, Try.ntmps22
  go_wp2_with (go_at_call 60; refine (HI.out).mono ?_; rintro e w' ⟨rfl, rfl⟩)
  go_ret
  exact ⟨rfl, rfl⟩
set_option maxHeartbeats 8000000 in
theorem TBlocks_is {W : World} {c b n : Nat} {l : List LockI} (h : TabIs W c b n l) (ho : Once39 l) (hn : n ≤ 1000) {id key mode : Int} (h1 : wfI id) (h2 : wfI key) :
    Calls Try.prog 24 #[.pointer (some ⟨c, 0, none⟩), .int .i64 id, .int .i64 key, .int .i64 mode] W (Rets (IListPost W (blkL l id key mode))) := by
  have HO := Lib.hid (blkR_came h.ok ho id key mode)
  have c0 : (W.alloc (.cells #[.slice none 0 0] 76)).cell? ⟨c, 0, none⟩ = some (.map (some b)) := (fr_alloc (fun _ => False) W _).cell h.box.cell (fun x => x)
  have HM : Hid (MapIs Try.prog 93 pairL pairO (W.alloc (.cells #[.slice none 0 0] 76)) b n (heldM l)) := Lib.hid (h.map.fr0 (fr_alloc _ _ _))
  have HI := Lib.hid (is_tab h.box)
  have hb0 : Box (W.alloc (.cells #[.slice none 0 0] 76)) W.heap.size 76 (.slice none 0 0) := Box.new _ _ _
  have HB0 := Lib.hid hb0
  clear h hb0
  have hmode : isMode mode = (mode == 1 || mode == 2) := rfl
  by_cases hm : isMode mode = true
  · have e : blkL l id key mode = ofI (blkR l id key mode) := by rw [blkL, if_pos hm]
    rw [e]
    clear e
    have hm12 : mode = 1 ∨ mode = 2 := by rw [hmode] at hm; simpa using hm
    clear hm hmode
    rcases hm12 with rfl | rfl
    · go_enter Try.func24, Try.ntmps24
      go_wp2_with (first | (go_at_call 60; refine (HI.out).mono ?_; rintro e w' ⟨rfl, rfl⟩) | (at_range; refine wpList_range_m rfl _ rfl lockK Try.underlying49 HM.out rfl (fun w0 cnt0 hcn hgo0 hfr0 hsr0 => ?_)))
      go_frame
      have hB0 : Box w0 W.heap.size 76 (.slice none 0 0) := HB0.out.fr0 hfr0
      have hF0 : Fr0 W w0 := (fr_alloc _ _ _).trans0 hfr0
      have hsw : w0.heap.size = W.heap.size + 2 := by rw [hsr0]; simp
      have hS0 : SetAt w0 none 0 [] := ⟨⟨by simp, .inl rfl⟩, fun _ => ⟨rfl, rfl⟩, List.Pairwise.nil, by simp, Nat.le_refl _⟩
      have e1 : (W.alloc (.cells #[.slice none 0 0] 76)).heap.size = W.heap.size + 1 := by simp
      rw [e1] at hgo0 ⊢
      clear HM HB0 c0 HI
      go_loopw [10] (fun v6 wr => ∃ (left : Int × Int → Bool) (cnt : Nat) (zs : List Int) (A : Option Addr) (cz : Nat), MapGo Try.prog 93 pairL pairO wr b (W.heap.size + 1) n (heldM l) left cnt ∧ Box wr W.heap.size 76 (.slice A zs.length cz) ∧ SetAt wr A cz zs ∧ zs.length + cnt ≤ n ∧ Fr0 W wr ∧ W.heap.size + 2 ≤ wr.heap.size ∧
          Hid (CameBy (wayV id key 1) (fun q => q.1) (heldM l) left zs)) (fun _ wr => wr.rangeLeft b (W.heap.size + 1))
      case atStart => exact ⟨_, cnt0, [], none, 0, hgo0, hB0, hS0, by simpa using hcn, hF0, by omega, Lib.hid CameBy.start⟩
      case round =>
        obtain ⟨left, cnt, zs, A, cz, hgo, hbx, hset, hzl, hf, hsz, HC⟩ := hrel
        have z0 := hbx.cell
        have hsmall : zs.length ≤ 1000 := by omega
        have HNE := Lib.hid (hgo.is.ne_cells hbx)
        go_wp2_with (first
          | (go_at_call 43; refine (SList_is hset).mono ?_; rintro e w2 ⟨v2, rfl, hf2, ho2⟩)
          | (go_at_call 42; refine (HWt.out).mono ?_; rintro e w2 ⟨_, rfl, A2, c2, rfl, hf2, hset2, hnew2⟩; have hbx2 := (hbx1.fr0 ((fr_alloc _ _ _).alloc _)).fr0 hf2; have z2 := hbx2.cell; have y2 := hbx2.frozen)
          | (at_next; refine wpList_next_mi (wayV id key 1) rfl _ rfl lockK hgo (fun _ _ h => heldM_int h) rfl (fun hl0 => ?_) (fun q v w1 cnt1 hp hq hlq hmq hgo1 hlt hgr hs1 hen => with4 (round_facts hgo hgr hbx hset hf hsmall hs1 q (q.1)) (fun hbx1 z1 hF1 HWt => way_yes1 hp (fun d1 d2 d3 => ?_))) (fun q v w1 cnt1 hp hq hlq hmq hgo1 hlt hgr hs1 hen => with4 (round_facts hgo hgr hbx hset hf hsmall hs1 q (q.1)) (fun hbx1 z1 hF1 HWt => way_no1 hp (fun d1 => ?_) (fun d1 d2 => ?_) (fun d1 d2 d3 n3 => ?_)))))
        · go_ret
          have hR := HC.out.done hset.rise hl0 HO.out
          rw [← hR]
          exact ⟨_, rfl, hf.trans0 hf2, own_base ho2 hf.size⟩
        · obtain ⟨wp, hwp⟩ : ∃ wp, wp = (w1.alloc (.cells #[.int .i64 q.1, .int .i64 q.2] 93)).alloc (.cells #[.int .i64 q.1] 3) := ⟨_, rfl⟩
          rw [← hwp] at hf2 hnew2
          have hfp : Fr0 w1 wp := hwp ▸ (fr_alloc _ _ _).alloc _
          have hA2 : Fr0 w1 w2 := hfp.trans0 hf2
          have hg2 := hgo1.fr0 hA2
          have hFS : Fr (fun k => k = W.heap.size) w2 (w2.setCell ⟨W.heap.size, 0, none⟩ (.slice A2 (ofI (zs ++ ofI [q.1])).length c2)) := fr_setCell _ _ _ (fun _ => rfl)
          have hg3 := hg2.fr hFS (fun e => HNE.out e.symm)
          have hpz := hfp.size
          have hlen : (ofI (zs ++ ofI [q.1])).length ≤ zs.length + 1 := by
            refine Nat.le_trans (len_ofI _) ?_
            rw [List.length_append]
            have := len_ofI [q.1]
            simp at this; omega
          go_roundw
          case rel =>
            refine ⟨_, cnt1, _, A2, c2, hg3, hbx2.set _, hset2.fr hFS (fun a e h => by have := hnew2 a e; omega), by omega, (hF1.trans0 hA2).trans hFS (fun j hj e => by omega), ?_, Lib.hid (HC.out.yes hq hmq hp)⟩
            have := hA2.size
            simp; omega
          case measure => rw [hg3.left_eq, hgo.left_eq]; omega
        · have hg3 := hgo1.fr0 (fr_alloc (fun _ => False) w1 (.cells #[.int .i64 q.1, .int .i64 q.2] 93))
          go_roundw
          case rel =>
            exact ⟨_, cnt1, zs, A, cz, hg3, hbx1.fr0 (fr_alloc _ _ _), (hset.grow (grow_iter hgo hgr (Nat.zero_le _))).fr0 (fr_alloc _ _ _), by omega, hF1.alloc _, by simp; omega, Lib.hid (HC.out.no hmq hp)⟩
          case measure => rw [hg3.left_eq, hgo.left_eq]; omega
        · have hg3 := hgo1.fr0 (fr_alloc (fun _ => False) w1 (.cells #[.int .i64 q.1, .int .i64 q.2] 93))
          go_roundw
          case rel =>
            exact ⟨_, cnt1, zs, A, cz, hg3, hbx1.fr0 (fr_alloc _ _ _), (hset.grow (grow_iter hgo hgr (Nat.zero_le _))).fr0 (fr_alloc _ _ _), by omega, hF1.alloc _, by simp; omega, Lib.hid (HC.out.no hmq hp)⟩
          case measure => rw [hg3.left_eq, hgo.left_eq]; omega
        · have hg3 := hgo1.fr0 (fr_alloc (fun _ => False) w1 (.cells #[.int .i64 q.1, .int .i64 q.2] 93))
          go_roundw
          case rel =>
            exact ⟨_, cnt1, zs, A, cz, hg3, hbx1.fr0 (fr_alloc _ _ _), (hset.grow (grow_iter hgo hgr (Nat.zero_le _))).fr0 (fr_alloc _ _ _), by omega, hF1.alloc _, by simp; omega, Lib.hid (HC.out.no hmq hp)⟩
          case measure => rw [hg3.left_eq, hgo.left_eq]; omega
    · go_enter Try.func24, Try.ntmps24
      go_wp2_with (first | (go_at_call 60; refine (HI.out).mono ?_; rintro e w' ⟨rfl, rfl⟩) | (at_range; refine wpList_range_m rfl _ rfl lockK Try.underlying49 HM.out rfl (fun w0 cnt0 hcn hgo0 hfr0 hsr0 => ?_)))
      go_frame
      have hB0 : Box w0 W.heap.size 76 (.slice none 0 0) := HB0.out.fr0 hfr0
      have hF0 : Fr0 W w0 := (fr_alloc _ _ _).trans0 hfr0
      have hsw : w0.heap.size = W.heap.size + 2 := by rw [hsr0]; simp
      have hS0 : SetAt w0 none 0 [] := ⟨⟨by simp, .inl rfl⟩, fun _ => ⟨rfl, rfl⟩, List.Pairwise.nil, by simp, Nat.le_refl _⟩
      have e1 : (W.alloc (.cells #[.slice none 0 0] 76)).heap.size = W.heap.size + 1 := by simp
      rw [e1] at hgo0 ⊢
      clear HM HB0 c0 HI
      go_loopw [10] (fun v6 wr => ∃ (left : Int × Int → Bool) (cnt : Nat) (zs : List Int) (A : Option Addr) (cz : Nat), MapGo Try.prog 93 pairL pairO wr b (W.heap.size + 1) n (heldM l) left cnt ∧ Box wr W.heap.size 76 (.slice A zs.length cz) ∧ SetAt wr A cz zs ∧ zs.length + cnt ≤ n ∧ Fr0 W wr ∧ W.heap.size + 2 ≤ wr.heap.size ∧
          Hid (CameBy (wayV id key 2) (fun q => q.1) (heldM l) left zs)) (fun _ wr => wr.rangeLeft b (W.heap.size + 1))
      case atStart => exact ⟨_, cnt0, [], none, 0, hgo0, hB0, hS0, by simpa using hcn, hF0, by omega, Lib.hid CameBy.start⟩
      case round =>
        obtain ⟨left, cnt, zs, A, cz, hgo, hbx, hset, hzl, hf, hsz, HC⟩ := hrel
        have z0 := hbx.cell
        have hsmall : zs.length ≤ 1000 := by omega
        have HNE := Lib.hid (hgo.is.ne_cells hbx)
        go_wp2_with (first
          | (go_at_call 43; refine (SList_is hset).mono ?_; rintro e w2 ⟨v2, rfl, hf2, ho2⟩)
          | (go_at_call 42; refine (HWt.out).mono ?_; rintro e w2 ⟨_, rfl, A2, c2, rfl, hf2, hset2, hnew2⟩; have hbx2 := (hbx1.fr0 ((fr_alloc _ _ _).alloc _)).fr0 hf2; have z2 := hbx2.cell; have y2 := hbx2.frozen)
          | (at_next; refine wpList_next_mi (wayV id key 2) rfl _ rfl lockK hgo (fun _ _ h => heldM_int h) rfl (fun hl0 => ?_) (fun q v w1 cnt1 hp hq hlq hmq hgo1 hlt hgr hs1 hen => with4 (round_facts hgo hgr hbx hset hf hsmall hs1 q (q.1)) (fun hbx1 z1 hF1 HWt => way_yes2 hp (fun d1 d2 => ?_))) (fun q v w1 cnt1 hp hq hlq hmq hgo1 hlt hgr hs1 hen => with4 (round_facts hgo hgr hbx hset hf hsmall hs1 q (q.1)) (fun hbx1 z1 hF1 HWt => way_no2 hp (fun d1 => ?_) (fun d1 d2 => ?_)))))
        · go_ret
          have hR := HC.out.done hset.rise hl0 HO.out
          rw [← hR]
          exact ⟨_, rfl, hf.trans0 hf2, own_base ho2 hf.size⟩
        · obtain ⟨wp, hwp⟩ : ∃ wp, wp = (w1.alloc (.cells #[.int .i64 q.1, .int .i64 q.2] 93)).alloc (.cells #[.int .i64 q.1] 3) := ⟨_, rfl⟩
          rw [← hwp] at hf2 hnew2
          have hfp : Fr0 w1 wp := hwp ▸ (fr_alloc _ _ _).alloc _
          have hA2 : Fr0 w1 w2 := hfp.trans0 hf2
          have hg2 := hgo1.fr0 hA2
          have hFS : Fr (fun k => k = W.heap.size) w2 (w2.setCell ⟨W.heap.size, 0, none⟩ (.slice A2 (ofI (zs ++ ofI [q.1])).length c2)) := fr_setCell _ _ _ (fun _ => rfl)
          have hg3 := hg2.fr hFS (fun e => HNE.out e.symm)
          have hpz := hfp.size
          have hlen : (ofI (zs ++ ofI [q.1])).length ≤ zs.length + 1 := by
            refine Nat.le_trans (len_ofI _) ?_
            rw [List.length_append]
            have := len_ofI [q.1]
            simp at this; omega
          go_roundw
          case rel =>
            refine ⟨_, cnt1, _, A2, c2, hg3, hbx2.set _, hset2.fr hFS (fun a e h => by have := hnew2 a e; omega), by omega, (hF1.trans0 hA2).trans hFS (fun j hj e => by omega), ?_, Lib.hid (HC.out.yes hq hmq hp)⟩
            have := hA2.size
            simp; omega
          case measure => rw [hg3.left_eq, hgo.left_eq]; omega
        · have hg3 := hgo1.fr0 (fr_alloc (fun _ => False) w1 (.cells #[.int .i64 q.1, .int .i64 q.2] 93))
          go_roundw
          case rel =>
            exact ⟨_, cnt1, zs, A, cz, hg3, hbx1.fr0 (fr_alloc _ _ _), (hset.grow (grow_iter hgo hgr (Nat.zero_le _))).fr0 (fr_alloc _ _ _), by omega, hF1.alloc _, by simp; omega, Lib.hid (HC.out.no hmq hp)⟩
          case measure => rw [hg3.left_eq, hgo.left_eq]; omega
        · have hg3 := hgo1.fr0 (fr_alloc (fun _ => False) w1 (.cells #[.int .i64 q.1, .int .i64 q.2] 93))
          go_roundw
          case rel =>
            exact ⟨_, cnt1, zs, A, cz, hg3, hbx1.fr0 (fr_alloc _ _ _), (hset.grow (grow_iter hgo hgr (Nat.zero_le _))).fr0 (fr_alloc _ _ _), by omega, hF1.alloc _, by simp; omega, Lib.hid (HC.out.no hmq hp)⟩
          case measure => rw [hg3.left_eq, hgo.left_eq]; omega
  · have e : blkL l id key mode = [] := by rw [blkL, if_neg hm]
    have m1 : (mode == 1) = false := by cases h : (mode == 1) with | false => rfl | true => rw [hmode, h] at hm; simp at hm
    have m2 : (mode == 2) = false := by cases h : (mode == 2) with | false => rfl | true => rw [hmode, h] at hm; simp at hm
    have n1 : ¬ mode = 1 := by simpa using m1
    have n2 : ¬ mode = 2 := by simpa using m2
    have e1 : (mode != 1) = true := by simp [n1]
    have e2 : (mode != 2) = true := by simp [n2]
    rw [e]
    clear e hm hmode
    go_enter Try.func24, Try.ntmps24
    go_wp2_with (go_at_call 60; refine (HI.out).mono ?_; rintro e w' ⟨rfl, rfl⟩)
    go_ret
    exact ⟨_, rfl, Fr.refl _ _, own_nil _ _ _ _⟩
end Go.Proofs.Ytekigojbkhjdbaa
