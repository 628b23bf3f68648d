/- The program's locks: a table as a row of locks; what it tells. -/
import Derived.Test.YtekigojbkhjdbaaRef39B
import Derived.Test.YtekigojbkhjdbaaMaps
import Derived.Test.YtekigojbkhjdbaaSetsD
import Derived.Test.YtekigojbkhjdbaaSeqNil
namespace Go.Proofs.Ytekigojbkhjdbaa
set_option linter.all false
open Go.RowKit Go.Maps
set_option maxRecDepth 100000

theorem laid_out39 : laidOutB Try.prog = true := by kernel_rfl
abbrev pairE (x : Int × Int) : Value := .agg #[.int .i64 x.1, .int .i64 x.2]
abbrev pairL (x : Int × Int) : Lit := .string (keyBytes [.int .i64 x.1, .int .i64 x.2])
abbrev pairO (x : Int × Int) : Prop := wfI x.1 ∧ wfI x.2
theorem lockK : KeyEnc Try.prog 93 pairE pairL pairO :=
  pairKey Try.underlying93 laid_out39 (of_decide_eq_true (by kernel_rfl)) (by kernel_rfl) (of_decide_eq_true (by kernel_rfl)) (by kernel_rfl) (by kernel_rfl) (by kernel_rfl) rfl rfl (by kernel_rfl) (by kernel_rfl) (of_decide_eq_true (by kernel_rfl))
    (intPart Try.underlying3) (intPart Try.underlying3)
theorem zero_int : ∀ w : World, (zeroValue 3).run Try.prog w = .ok (.int .i64 0) w := fun w => by kernel_rfl
/-- Who holds what. -/
def heldM (l : List LockI) (x : Int × Int) : Option Value := (l.find? (hitL x.1 x.2)).map (fun y => .int .i64 y.m)
def LockOk (l : List LockI) : Prop := ∀ x ∈ l, wfI x.i ∧ wfI x.k ∧ (x.m = 1 ∨ x.m = 2)
/-- A table whose locks are those of l. -/
structure TabIs (W : World) (c b n : Nat) (l : List LockI) : Prop where
  box : Box W c 51 (.map (some b))
  map : MapIs Try.prog 93 pairL pairO W b n (heldM l)
  ok : LockOk l
theorem TabIs.fr0 {W W' : World} {c b n : Nat} {l : List LockI} (h : TabIs W c b n l) (f : Fr0 W W') : TabIs W' c b n l := ⟨h.box.fr0 f, h.map.fr0 f, h.ok⟩
/-- No table. -/
def NoTab (W : World) (v : Value) : Prop := v = .pointer none ∨ ∃ c, v = .pointer (some ⟨c, 0, none⟩) ∧ Box W c 51 (.map none)
theorem NoTab.fr0 {W W' : World} {v : Value} (h : NoTab W v) (f : Fr0 W W') : NoTab W' v := by
  rcases h with h | ⟨c, e, hb⟩
  · exact .inl h
  · exact .inr ⟨c, e, hb.fr0 f⟩
theorem run_equalIn_map {P : Program} (d t : Nat) {k e : Nat} (h : P.underlying t = some (.map k e)) (b : Nat) (w : World) : (Op.equalIn (d + 1) t (.map (some b)) (.map none)).run P w = .ok false w := by
  simp [Op.equalIn, run_underlying h]
theorem run_equalIn_mapn {P : Program} (d t : Nat) {k e : Nat} (h : P.underlying t = some (.map k e)) (w : World) : (Op.equalIn (d + 1) t (.map none) (.map none)).run P w = .ok true w := by
  simp [Op.equalIn, run_underlying h]
theorem run_equal_map {P : Program} (t : Nat) {k e : Nat} (h : P.underlying t = some (.map k e)) (b : Nat) (w : World) : (Op.equal t (.map (some b)) (.map none)).run P w = .ok false w := run_equalIn_map 9999 t h b w
theorem run_equal_mapn {P : Program} (t : Nat) {k e : Nat} (h : P.underlying t = some (.map k e)) (w : World) : (Op.equal t (.map none) (.map none)).run P w = .ok true w := run_equalIn_mapn 9999 t h w
theorem run_neq_lm (w : World) (b : Nat) : (binOp .neq 49 (.map (some b)) (.map none)).run Try.prog w = .ok (.bool true) w := by
  simp only [binOp]
  simp [run_equal_map _ Try.underlying49]
theorem run_neq_lmn (w : World) : (binOp .neq 49 (.map none) (.map none)).run Try.prog w = .ok (.bool false) w := by
  simp only [binOp]
  simp [run_equal_mapn _ Try.underlying49]
theorem is_tab {W : World} {c b : Nat} (h : Box W c 51 (.map (some b))) : Calls Try.prog 60 #[.pointer (some ⟨c, 0, none⟩)] W fun e w' => e = .returned (.bool true) ∧ W = w' := by
  have c0 := h.cell
  clear h
  have q := fun w => run_neq_lm w b
  go_enter Try.func60, Try.ntmps60
  go_wp2_with fail
  go_ret
  exact ⟨rfl, rfl⟩
theorem is_none {W : World} {v : Value} (h : NoTab W v) : Calls Try.prog 60 #[v] W fun e w' => e = .returned (.bool false) ∧ W = w' := by
  rcases h with rfl | ⟨c, rfl, hb⟩
  · go_enter Try.func60, Try.ntmps60
    go_wp2_with fail
    go_ret
    exact ⟨rfl, rfl⟩
  · have c0 := hb.cell
    clear hb
    have q := run_neq_lmn
    go_enter Try.func60, Try.ntmps60
    go_wp2_with fail
    go_ret
    exact ⟨rfl, rfl⟩
theorem TNew_is (W : World) : Calls Try.prog 17 #[] W (Rets fun v w' => ∃ c b, v = .pointer (some ⟨c, 0, none⟩) ∧ Fr0 W w' ∧ W.heap.size ≤ b ∧ TabIs w' c b 0 []) := by
  have hmm := @run_makeMap Try.prog
  have hm := MapIs.made W Try.prog 93 pairL pairO
  have hb : Box ((W.alloc (.map #[] 0)).alloc (.cells #[.map (some W.heap.size)] 51)) (W.heap.size + 1) 51 (.map (some W.heap.size)) := by
    have := Box.new (W.alloc (.map #[] 0)) 51 (.map (some W.heap.size)); rwa [World.size_alloc] at this
  go_enter Try.func17, Try.ntmps17
  go_wp2_with fail
  go_ret
  exact ⟨_, rfl, _, _, rfl, (fr_alloc _ _ _).alloc _, Nat.le_refl _, ⟨hb, (hm.fr0 (fr_alloc _ _ _)), fun x hx => by cases hx⟩⟩
theorem THolds_is {W : World} {c b n : Nat} {l : List LockI} (h : TabIs W c b n l) {id key : Int} (h1 : wfI id) (h2 : wfI key) :
    Calls Try.prog 19 #[.pointer (some ⟨c, 0, none⟩), .int .i64 id, .int .i64 key] W fun e w' => e = .returned (.int .i64 (holdsL l id key)) ∧ W = w' := by
  have c0 := h.box.cell
  have HI := Lib.hid (is_tab h.box)
  have HM := Lib.hid h.map
  have hval : (heldM l (id, key)).getD (.int .i64 0) = .int .i64 (holdsL l id key) := by
    unfold heldM holdsL
    cases l.find? (hitL id key) <;> rfl
  clear h
  go_enter Try.func19, Try.ntmps19
  go_wp2_with (first | (go_at_call 60; refine (HI.out).mono ?_; rintro e w' ⟨rfl, rfl⟩) | (at_lookup; refine wpList_look_m rfl _ _ _ rfl lockK Try.underlying49 zero_int HM.out rfl (y := (id, key)) ⟨h1, h2⟩ rfl ?_; simp only [hval, if_false, Bool.false_eq_true]))
  go_ret
  exact ⟨rfl, rfl⟩
theorem THolds_none {W : World} {v : Value} (h : NoTab W v) (id key : Int) :
    Calls Try.prog 19 #[v, .int .i64 id, .int .i64 key] W fun e w' => e = .returned (.int .i64 0) ∧ W = w' := by
  have HI := Lib.hid (is_none h)
  clear h
  go_enter Try.func19, Try.ntmps19
  go_wp2_with (go_at_call 60; refine (HI.out).mono ?_; rintro e w' ⟨rfl, rfl⟩)
  go_ret
  exact ⟨rfl, rfl⟩
end Go.Proofs.Ytekigojbkhjdbaa
