/- The program's store: appending and aborting. -/
import Derived.Test.YtekigojbkhjdbaaStoreC
namespace Go.Proofs.Ytekigojbkhjdbaa
set_option linter.all false
open Go.RowKit Go.Maps
set_option maxRecDepth 100000

theorem with4s {a b c d G : Prop} (h : a ∧ b ∧ c ∧ d) (k : a → b → c → d → G) : G := k h.1 h.2.1 h.2.2.1 h.2.2.2
/-- What a store may write to: of block B on, a map, or a row of one of three types. -/
def FootS (B : Nat) (W : World) (k : Nat) : Prop := B ≤ k ∧ ((∃ es cl, W.heap[k]? = some (.map es cl)) ∨ ∃ cs t, W.heap[k]? = some (.cells cs t (0, 0)) ∧ (t = 74 ∨ t = 107 ∨ t = 113))
theorem FootS.trans {B : Nat} {W W' W'' : World} (f : Fr (FootS B W) W W') (g : Fr (FootS B W') W' W'') : Fr (FootS B W) W W'' :=
  f.trans g (fun j hj h => by
    by_cases hs : FootS B W j
    · exact hs
    · have e := f.same j hj hs
      unfold FootS at h ⊢
      rw [e] at h
      exact h)
theorem FootS.of0 {B : Nat} {W W' : World} (f : Fr0 W W') : Fr (FootS B W) W W' := f.mono (fun _ _ h => h.elim)
theorem fr_foot {B : Nat} {W w w' : World} (h : Fr0 W w) (hB : W.heap.size ≤ B) (f : Fr (FootS B w) w w') : Fr0 W w' := h.trans f (fun j hj e => by have := e.1; omega)
/-- A row of another type is kept. -/
theorem own_foot {B e size B0 n : Nat} {W W' : World} {v : Value} {xs : List Value} (h : W.ownsRow B0 e size v n xs) (f : Fr (FootS B W) W W') (h1 : e ≠ 74) (h2 : e ≠ 107) (h3 : e ≠ 113) : W'.ownsRow B0 e size v n xs :=
  own_fr h f (fun b hb hF => by
    obtain ⟨_, _, cs, hh⟩ := own_blk h hb
    rcases hF.2 with ⟨es, cl, e⟩ | ⟨cs', t, e, ht⟩
    · rw [hh] at e; cases e
    · rw [hh] at e; cases e; rcases ht with h | h | h <;> contradiction)
section
variable {W W' W1 : World} {B c b n co now : Nat} {Ao : Option Addr} {m : Int → Option Value} {P Q : List V4I}
theorem own_ne_map {e size k : Nat} {v : Value} {xs : List Value} (h : W.ownsRow B e size v k xs) (hm : SMap W b n m) : v.ownBlock ≠ some b := by
  intro hb
  obtain ⟨_, _, cs, hh⟩ := own_blk h hb
  obtain ⟨es, clock, hb2⟩ := hm.isMapObj
  rw [hh] at hb2; cases hb2
theorem own_ne_own {B' e e' size size' k k' : Nat} {v v' : Value} {xs xs' : List Value} (h : W.ownsRow B e size v k xs) (h' : W.ownsRow B' e' size' v' k' xs') (he : e ≠ e') {q : Nat} (hq : v.ownBlock = some q) : v'.ownBlock ≠ some q := by
  intro hb
  obtain ⟨_, _, cs, hh⟩ := own_blk h hq
  exact own_ne h' hh he hb
/-- A new row of what waits, stored. -/
theorem StoreIs.with_open (h : StoreIs W B c b n Ao co m P Q now) (f : Fr (fun k => (Value.slice Ao Q.length co).ownBlock = some k) W W1) {Ao' : Option Addr} {co' : Nat} {Q' : List V4I}
    (ho : W1.ownsRow B 107 3 (.slice Ao' Q'.length co') Q'.length (tupCells wtE (Q'.map wtOf))) (hq : QOk Q') :
    StoreIs (W1.setCell ⟨c, 1, none⟩ (.slice Ao' Q'.length co')) B c b n Ao' co' m P Q' now ∧ Fr (FootS B W) W (W1.setCell ⟨c, 1, none⟩ (.slice Ao' Q'.length co')) ∧
    W1.cell? ⟨c, 1, none⟩ = some (.slice Ao Q.length co) ∧ W1.frozen? ⟨c, 1, none⟩ = false := by
  have hbox1 : W1.heap[c]? = some (.cells #[.map (some b), .slice Ao Q.length co, .int .i64 (now : Int)] 74 (0, 0)) := f.heap h.box (own_ne h.opn h.box (by decide))
  have hm1 : SMap W1 b n m := h.map.fr f (fun e => own_ne_map h.opn h.map e)
  have hfs : Fr (fun k => k = c) W1 (W1.setCell ⟨c, 1, none⟩ (.slice Ao' Q'.length co')) := fr_setCell _ _ _ (fun _ => rfl)
  have hfoot : ∀ k, (Value.slice Ao Q.length co).ownBlock = some k → FootS B W k := fun k e => by
    obtain ⟨g1, _, cs, g2⟩ := own_blk h.opn e
    exact ⟨g1, .inr ⟨cs, _, g2, .inr (.inl rfl)⟩⟩
  refine ⟨⟨?_, own_fr ho hfs (fun q hq e => own_ne ho hbox1 (by decide) (e ▸ hq)), hm1.fr hfs (fun e => by
      have hb := hm1.ne_cells hbox1; exact hb e.symm), fun x hx => ?_, h.apart, h.bc, h.bb, h.pok, hq⟩, ?_, by simp [World.cell?, hbox1], by simp [World.frozen?, hbox1]⟩
  · simp only [World.setCell, Array.getElem?_modify, hbox1, if_true]
    simp
  · refine (h.rows x hx).imp id ?_
    rintro ⟨v, e, hr⟩
    have hr1 := own_fr hr f (fun q hq e => own_ne_own hr h.opn (by decide) hq e)
    exact ⟨v, e, own_fr hr1 hfs (fun q hq e => own_ne hr1 hbox1 (by decide) (e ▸ hq))⟩
  · refine Fr.trans (f.mono (fun k _ e => hfoot k e)) hfs (fun j hj e => ?_)
    subst e
    exact ⟨h.bc, .inr ⟨_, _, h.box, .inl rfl⟩⟩
theorem info_wt : (Try.prog.info? 107).map (fun i => (i.zero, i.size, i.bytes)) = some (some (.agg #[.int .i64 0, .int .i64 0, .int .i64 0]), 3, 24) := by kernel_rfl
set_option maxHeartbeats 4000000 in
theorem SAppend_is (h : StoreIs W B c b n Ao co m P Q now) (hQ : Q.length ≤ 100000) (hB : B ≤ W.heap.size) {id key value : Int} (hk : wfI key) :
    Calls Try.prog 62 #[.pointer (some ⟨c, 0, none⟩), .int .i64 id, .int .i64 key, .int .i64 value] W (Rets fun v w' => v = .tuple #[] ∧ ∃ Ao' co', StoreIs w' B c b n Ao' co' m P (Q ++ [⟨id, key, value, 0⟩]) now ∧ Fr (FootS B W) W w') := by
  obtain ⟨i0, hi, hz0, hz1, hz2⟩ := info_parts info_wt
  have HI := Lib.hid (sis_is h)
  have c1 := h.c1
  have HH := Lib.hid h
  have hq2 : QOk (Q ++ [⟨id, key, value, 0⟩]) := fun x hx => by
    rcases List.mem_append.1 hx with hx | hx
    · exact h.qok x hx
    · rw [List.mem_singleton.1 hx]; exact ⟨rfl, hk⟩
  have HQ := Lib.hid hq2
  have hoo := h.opn
  have HO := Lib.hid hoo
  clear h hq2 hoo
  go_enter Try.func62, Try.ntmps62
  go_wp2_with (first
    | (go_at_call 68; refine (HI.out).mono ?_; rintro e w' ⟨rfl, rfl⟩)
    | (at_builtin; refine wpList_append_own _ rfl _ _ 72 rfl B 107 i0 (.agg #[.int .i64 0, .int .i64 0, .int .i64 0]) 3 24 Try.underlying72 hi hz0 hz1 hz2 rfl (by decide) _ _ _ rfl (own_fr0 HO.out (fr_alloc _ _ _)) _ 1 1 (intsI (wtE ⟨id, key, value⟩)) rfl rfl (cells_new _ (intsI (wtE ⟨id, key, value⟩)) _) intsI_get (by unfold maxLen; omega) (by omega) (by simp; omega) ?_; intro v3 w3 hown' hgrow _; obtain ⟨A3, c3, rfl⟩ := own_form hown'; have HR := with4s (HH.out.with_open (append_fr HO.out hgrow) (Ao' := A3) (co' := c3) (Q' := Q ++ [⟨id, key, value, 0⟩]) (by rw [List.map_append, List.length_append]; simpa [tupCells, wtOf, wtE] using hown') HQ.out) (fun a1 a2 a3 a4 => And.intro a3 (And.intro a4 (Lib.hid (And.intro a1 a2)))); have k1 := HR.1; have k2 := HR.2.1; have HE := HR.2.2; clear HR))
  go_end0
  have hE := HE.out
  rw [List.length_append] at hE
  exact ⟨_, rfl, rfl, A3, c3, hE.1, hE.2⟩
end
end Go.Proofs.Ytekigojbkhjdbaa
