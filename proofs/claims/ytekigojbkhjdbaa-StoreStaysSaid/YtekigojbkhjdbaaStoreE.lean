/- The program's store: aborting. -/
import Derived.Test.YtekigojbkhjdbaaStoreD
namespace Go.Proofs.Ytekigojbkhjdbaa
set_option linter.all false
open Go.RowKit Go.Maps
set_option maxRecDepth 100000

def idW (id : Int) (x : WtI) : Bool := x.f == id
def notP (id : Int) (x : V4I) : Bool := !(x.i == id)
theorem abt_is {id : Int} {blk : Nat} : PredSpecW 88 #[.pointer (some ⟨blk, 0, none⟩)] (idW id) (fun W => Box W blk 3 (.int .i64 id)) := by
  intro a W hb
  have z0 := (hb.fr0 (fr_alloc _ W (.cells #[.int .i64 a.f, .int .i64 a.t, .int .i64 a.m] 107))).cell
  clear hb
  by_cases h : a.f = id
  · have e : idW id a = true := by simp [idW, h]
    have d : (a.f == id) = true := by simpa using h
    rw [e]
    clear h e
    go_enter Try.func88, Try.ntmps88
    go_wp2_with fail
    go_ret
    exact ⟨_, rfl, rfl, fr_alloc _ _ _⟩
  · have e : idW id a = false := by simp [idW, h]
    have d : (a.f == id) = false := by simpa using h
    rw [e]
    go_enter Try.func88, Try.ntmps88
    go_wp2_with fail
    go_ret
    exact ⟨_, rfl, rfl, fr_alloc _ _ _⟩
theorem abt_enters : ∀ args w, (callFunc 88 args).run Try.prog w = .ok (.enter 88 args) w := enters_of Try.func88 (by kernel_rfl) rfl
theorem tups_wts {W : World} {A : Option Addr} {l : List WtI} (h : TupsAt wtE 3 W A l) : ArcsAtW W A l := by
  refine ⟨h.1, h.2.imp id ?_⟩
  rintro ⟨q, o, e, hc⟩
  refine ⟨q, o, e, fun j hj => ?_⟩
  rw [List.getD_eq_getElem?_getD, List.getElem?_eq_getElem hj, Option.getD_some]
  exact ⟨hc j hj 0 (by omega), hc j hj 1 (by omega), hc j hj 2 (by omega)⟩
theorem wt_filter (Q : List V4I) (id : Int) : (Q.map wtOf).filter (fun a => !idW id a) = (selV (notP id) (fun x => x) Q).map wtOf := by
  unfold selV
  rw [List.filter_map, List.map_map]
  rfl
section
variable {W W' W1 : World} {B c b n co now : Nat} {Ao : Option Addr} {m : Int → Option Value} {P Q : List V4I}
/-- Deleting from a row of one's own. -/
theorem del_own {A : Option Addr} {l : List WtI} {id : Int} (ho : W.ownsRow B 107 3 (.slice A l.length co) l.length (tupCells wtE l)) (hl : l.length ≤ 100000) (hB : B ≤ W.heap.size) {blk : Nat} (hb : Box W blk 3 (.int .i64 id)) :
    Calls Try.prog 87 #[.slice A l.length co, .func (.func 88) #[] #[.pointer (some ⟨blk, 0, none⟩)]] W
      (Rets fun v w' => ∃ A' co', v = .slice A' (l.filter (fun a => !idW id a)).length co' ∧ Fr (fun k => (Value.slice A l.length co).ownBlock = some k) W w' ∧ w'.ownsRow B 107 3 (.slice A' (l.filter (fun a => !idW id a)).length co') (l.filter (fun a => !idW id a)).length (tupCells wtE (l.filter (fun a => !idW id a)))) := by
  rcases ho.2 with ⟨e, e2⟩ | ⟨g, cap, cur, e, hg, hh, h1, h2, h3, h4⟩
  · obtain ⟨rfl, e1, rfl⟩ : A = none ∧ l.length = 0 ∧ co = 0 := by simpa using e
    have e3 := List.length_eq_zero_iff.1 e1
    subst e3
    have HI := Lib.hid (IndexFunc_isW (c := 0) (abt_is (id := id) (blk := blk)) (fun _ _ h f => h.fr0 f) abt_enters (show ArcsAtW W none [] from ⟨by simp, .inl rfl⟩) hb)
    have hx : idxIW (idW id) [] = -1 := rfl
    rw [hx] at HI
    go_enter Try.func87, Try.ntmps87
    go_wp2_with (go_at_call 105; refine HI.out.mono ?_; rintro e w2 ⟨_, rfl, rfl, h2⟩)
    go_ret
    exact ⟨_, rfl, none, 0, rfl, h2.mono (fun _ _ h => h.elim), own_nil _ _ _ _⟩
  · cases e
    have hcells : tupCells wtE l = arcCellsW l := rfl
    have hcur : cur = (arcCellsW l ++ cur.toList.drop (l.length * 3)).toArray := by
      rw [← hcells, ← h4, List.take_append_drop]
    have hA : ArrAtW W g l (cur.toList.drop (l.length * 3)) := by
      unfold ArrAtW
      rw [hh]
      exact congrArg (fun x => some (Obj.cells x _ (0, 0))) hcur
    have hN : (arcCellsW l ++ cur.toList.drop (l.length * 3)).length = co * 3 := by
      have := congrArg Array.size hcur
      rw [h3] at this
      rw [this]; simp
    have hne : g ≠ blk := by
      rintro rfl
      unfold Box at hb
      rw [hh] at hb
      cases hb
    refine (DeleteFunc_isW (abt_is (id := id) (blk := blk)) abt_enters hA (by omega) h1 (fun _ _ h f => h.fr f (fun e => hne e.symm)) hb).mono ?_
    rintro e w' ⟨v, rfl, rfl, hf, tail, ht, hlen⟩
    refine ⟨_, rfl, _, co, rfl, hf.mono (fun k _ e => by subst e; rfl), ⟨tupCells_len wtE_len _, .inr ⟨g, co, _, rfl, hg, ht, ?_, h2, ?_, ?_⟩⟩⟩
    · exact Nat.le_trans (List.length_filter_le _ _) h1
    · rw [← hN, ← hlen]; simp
    · show List.take _ (_ ++ tail) = arcCellsW _
      rw [← arcCells_lenW, List.take_left]
set_option maxHeartbeats 4000000 in
theorem SAbort_is (h : StoreIs W B c b n Ao co m P Q now) (hQ : Q.length ≤ 100000) (hB : B ≤ W.heap.size) (id : Int) :
    Calls Try.prog 66 #[.pointer (some ⟨c, 0, none⟩), .int .i64 id] W (Rets fun v w' => v = .tuple #[] ∧ ∃ Ao' co', StoreIs w' B c b n Ao' co' m P (selV (notP id) (fun x => x) Q) now ∧ Fr (FootS B W) W w') := by
  obtain ⟨w0, hw0⟩ : ∃ w0, w0 = W.alloc (.cells #[.int .i64 id] 3) := ⟨_, rfl⟩
  have hf0 : Fr0 W w0 := hw0 ▸ fr_alloc _ _ _
  have hb0 : Box w0 W.heap.size 3 (.int .i64 id) := hw0 ▸ Box.new _ _ _
  have h0 := h.fr0 hf0
  have hs := hf0.size
  have HI := Lib.hid (sis_is h0)
  have c1 := h0.c1
  have hD := del_own (A := Ao) (co := co) (l := Q.map wtOf) (id := id) (by simpa using h0.opn) (by simp; omega) (by omega) hb0
  rw [wt_filter] at hD
  simp only [List.length_map] at hD
  have HD := Lib.hid hD
  have HH := Lib.hid h0
  have hq2 : QOk (selV (notP id) (fun x => x) Q) := fun x hx => by
    unfold selV at hx
    simp at hx
    exact h.qok x hx.1
  have HQ := Lib.hid hq2
  have HW := Lib.hid hw0
  clear h h0 hD hq2 hw0
  go_enter Try.func66, Try.ntmps66
  go_wp2_with (first
    | (go_at_call 87; refine (HD.out).mono ?_; rintro e w3 ⟨_, rfl, A3, c3, rfl, hf3, ho3⟩; have HR := with4s (HH.out.with_open hf3 (Ao' := A3) (co' := c3) (Q' := selV (notP id) (fun x => x) Q) (by simpa using ho3) HQ.out) (fun a1 a2 a3 a4 => And.intro a3 (And.intro a4 (Lib.hid (And.intro a1 a2)))); have k1 := HR.1; have k2 := HR.2.1; have HE := HR.2.2; clear HR)
    | (go_at_call 68; (try rw [← HW.out]); refine (HI.out).mono ?_; rintro e w' ⟨rfl, rfl⟩))
  go_end0
  have hE := HE.out
  exact ⟨_, rfl, rfl, A3, c3, hE.1, (FootS.of0 hf0).trans hE.2 (fun j hj e => by
    by_cases hs : FootS B W j
    · exact hs
    · have e2 := hf0.same j hj (fun x => x)
      unfold FootS at e ⊢
      rw [e2] at e
      exact e)⟩
theorem SAppend_none {v : Value} (h : NoStore W v) (id key value : Int) :
    Calls Try.prog 62 #[v, .int .i64 id, .int .i64 key, .int .i64 value] W fun e w' => e = .returned (.tuple #[]) ∧ W = w' := by
  have HI := Lib.hid (sis_none h)
  clear h
  go_enter Try.func62, Try.ntmps62
  go_wp2_with (go_at_call 68; refine (HI.out).mono ?_; rintro e w' ⟨rfl, rfl⟩)
  go_end0
  exact ⟨rfl, rfl⟩
theorem SAbort_none {v : Value} (h : NoStore W v) (id : Int) :
    Calls Try.prog 66 #[v, .int .i64 id] W fun e w' => e = .returned (.tuple #[]) ∧ Fr0 W w' := by
  have HI := Lib.hid (sis_none (h.fr0 (fr_alloc _ W (.cells #[.int .i64 id] 3))))
  clear h
  go_enter Try.func66, Try.ntmps66
  go_wp2_with (go_at_call 68; refine (HI.out).mono ?_; rintro e w' ⟨rfl, rfl⟩)
  go_end0
  exact ⟨rfl, fr_alloc _ _ _⟩
theorem SCommit_none {v : Value} (h : NoStore W v) (id : Int) :
    Calls Try.prog 63 #[v, .int .i64 id] W fun e w' => e = .returned (.int .i64 0) ∧ W = w' := by
  have HI := Lib.hid (sis_none h)
  clear h
  go_enter Try.func63, Try.ntmps63
  go_wp2_with (go_at_call 68; refine (HI.out).mono ?_; rintro e w' ⟨rfl, rfl⟩)
  go_ret
  exact ⟨rfl, rfl⟩
end
end Go.Proofs.Ytekigojbkhjdbaa
