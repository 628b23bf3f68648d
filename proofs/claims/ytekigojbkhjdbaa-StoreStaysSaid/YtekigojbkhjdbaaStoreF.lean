/- The program's store: committing. -/
import Derived.Test.YtekigojbkhjdbaaStoreE
import Derived.BigRegion
namespace Go.Proofs.Ytekigojbkhjdbaa
set_option linter.all false
open Go.RowKit Go.Maps
set_option maxRecDepth 100000

attribute [local go_sem ↓] appendH_eq
theorem info_st : (Try.prog.info? 113).map (fun i => (i.zero, i.size, i.bytes)) = some (some (.agg #[.int .i64 0, .int .i64 0]), 2, 16) := by kernel_rfl
theorem rowP_snoc (P : List V4I) (y : V4I) (x : Int) : rowP (P ++ [y]) x = if y.k = x then rowP P x ++ [stOf y] else rowP P x := by
  unfold rowP
  rw [List.filter_append, List.map_append]
  by_cases h : y.k = x
  · rw [if_pos h]; simp [keyP, h]
  · rw [if_neg h]; simp [keyP, h]
section
variable {W W' W1 : World} {B c b n co now : Nat} {Ao : Option Addr} {m : Int → Option Value} {P Q : List V4I}
theorem StoreIs.count (h : StoreIs W B c b n Ao co m P Q now) : (W.setCell ⟨c, 2, none⟩ (.int .i64 ((now + 1 : Nat) : Int))) = W.setCell ⟨c, 2, none⟩ (.int .i64 ((now + 1 : Nat) : Int)) ∧
    StoreIs (W.setCell ⟨c, 2, none⟩ (.int .i64 ((now + 1 : Nat) : Int))) B c b n Ao co m P Q (now + 1) ∧ Fr (FootS B W) W (W.setCell ⟨c, 2, none⟩ (.int .i64 ((now + 1 : Nat) : Int))) := by
  have hfs : Fr (fun k => k = c) W (W.setCell ⟨c, 2, none⟩ (.int .i64 ((now + 1 : Nat) : Int))) := fr_setCell _ _ _ (fun _ => rfl)
  refine ⟨rfl, ⟨?_, own_fr h.opn hfs (fun q hq e => own_ne h.opn h.box (by decide) (e ▸ hq)), h.map.fr hfs (fun e => h.map.ne_cells h.box e.symm), fun x hx => ?_, h.apart, h.bc, h.bb, fun x hx => ?_, h.qok⟩, hfs.mono (fun j _ e => ?_)⟩
  · have := h.box
    simp only [World.setCell, Array.getElem?_modify, this, if_true]
    simp
  · refine (h.rows x hx).imp id ?_
    rintro ⟨v, e, hr⟩
    exact ⟨v, e, own_fr hr hfs (fun q hq e => own_ne hr h.box (by decide) (e ▸ hq))⟩
  · have := h.pok x hx
    exact ⟨this.1, by omega, this.2.2⟩
  · subst e; exact ⟨h.bc, .inr ⟨_, _, h.box, .inl rfl⟩⟩
/-- A value more, at a key. -/
theorem StoreIs.with_row (h : StoreIs W B c b n Ao co m P Q now) {x : Int} (hx : wfI x) {A2 : Option Addr} {c2 : Nat} (hget : (m x).getD (.slice none 0 0) = .slice A2 (rowP P x).length c2)
    (hB : B ≤ W.heap.size) {wx w1 w2 : World} (f0 : Fr0 W wx) (hg : wx.grownBy w1 (Value.slice A2 (rowP P x).length c2).ownBlock) {v' : Value} {y : V4I} (hy : y.k = x) (hys : 1 ≤ y.s ∧ y.s ≤ (now : Int))
    (ho : w1.ownsRow B 113 2 v' (rowP P x ++ [stOf y]).length (tupCells stE (rowP P x ++ [stOf y]))) (hloc : v'.ownBlock = (Value.slice A2 (rowP P x).length c2).ownBlock ∨ v'.ownBlock = some wx.heap.size)
    (hm2 : SMap w2 b (n + 1) (upd m x (some v'))) (f2 : Fr (fun k => k = b) w1 w2) :
    StoreIs w2 B c b (n + 1) Ao co (upd m x (some v')) (P ++ [y]) Q now ∧ Fr (FootS B W) W w2 := by
  have hrow : W.ownsRow B 113 2 (.slice A2 (rowP P x).length c2) (rowP P x).length (tupCells stE (rowP P x)) := by
    rcases h.rows x hx with ⟨e, e2⟩ | ⟨v, e, ho⟩
    · rw [e] at hget
      have hg2 : (.slice none 0 0 : Value) = .slice A2 (rowP P x).length c2 := hget
      rw [← hg2, e2]; exact own_nil _ _ _ _
    · rw [e] at hget
      have hg2 : v = .slice A2 (rowP P x).length c2 := hget
      rw [← hg2]; exact ho
  have f1 : Fr (fun k => (Value.slice A2 (rowP P x).length c2).ownBlock = some k) W w1 := f0.mono (fun _ _ h => h.elim) |>.trans (T := fun k => (Value.slice A2 (rowP P x).length c2).ownBlock = some k) (append_fr0 (own_fr0 hrow f0) hg) (fun j _ e => e)
  have hbox1 := f1.heap h.box (own_ne hrow h.box (by decide))
  have hopn1 := own_fr h.opn f1 (fun q hq e => own_ne_own h.opn hrow (by decide) hq e)
  have hm1 : SMap w1 b n m := h.map.fr f1 (fun e => own_ne_map hrow h.map e)
  have hcb := hm1.ne_cells hbox1
  have hkeep : ∀ {k e size : Nat} {u : Value} {xs : List Value}, w1.ownsRow B e size u k xs → w2.ownsRow B e size u k xs := fun ho => own_fr ho f2 (fun q hq e => own_ne_map ho hm1 (e ▸ hq))
  have hothers : ∀ z u, wfI z → z ≠ x → m z = some u → Apart u (Value.slice A2 (rowP P x).length c2) := fun z u hz hne hu => by
    rcases h.rows x hx with ⟨e, e2⟩ | ⟨v, e, ho⟩
    · rw [e] at hget
      have hg2 : (.slice none 0 0 : Value) = .slice A2 (rowP P x).length c2 := hget
      rw [← hg2]; exact (Apart.nil _).symm
    · rw [e] at hget
      have hg2 : v = .slice A2 (rowP P x).length c2 := hget
      rw [← hg2]; exact h.apart z x u v hz hx hne hu e
  have hown_of : ∀ z u, wfI z → m z = some u → W.ownsRow B 113 2 u (rowP P z).length (tupCells stE (rowP P z)) := fun z u hz hu => by
    rcases h.rows z hz with ⟨e, _⟩ | ⟨v, e, ho⟩
    · rw [e] at hu; cases hu
    · rw [e] at hu; cases hu; exact ho
  have hnew : ∀ z u, wfI z → z ≠ x → m z = some u → Apart u v' := fun z u hz hne hu => (hothers z u hz hne hu).grown (hown_of z u hz hu) hloc f0.size
  refine ⟨⟨f2.heap hbox1 hcb, hkeep hopn1, hm2, fun z hz => ?_, fun z1 z2 u1 u2 hz1 hz2 hne hu1 hu2 => ?_, h.bc, h.bb, fun p hp => ?_, h.qok⟩, ?_⟩
  · by_cases e : z = x
    · subst e
      rw [upd, if_pos rfl, rowP_snoc, if_pos hy]
      exact .inr ⟨v', rfl, hkeep ho⟩
    · rw [upd, if_neg e, rowP_snoc, if_neg (by rw [hy]; exact fun h => e h.symm)]
      rcases h.rows z hz with ⟨e1, e2⟩ | ⟨u, e1, hr⟩
      · exact .inl ⟨e1, e2⟩
      · exact .inr ⟨u, e1, hkeep (own_fr hr f1 (fun q hq e2 => hothers z u hz e e1 q hq e2))⟩
  · unfold upd at hu1 hu2
    by_cases e1 : z1 = x
    · rw [if_pos e1] at hu1
      cases hu1
      rw [if_neg (fun h => hne (e1.trans h.symm))] at hu2
      exact (hnew z2 u2 hz2 (fun h => hne (e1.trans h.symm)) hu2).symm
    · rw [if_neg e1] at hu1
      by_cases e2 : z2 = x
      · rw [if_pos e2] at hu2
        cases hu2
        exact hnew z1 u1 hz1 e1 hu1
      · rw [if_neg e2] at hu2
        exact h.apart z1 z2 u1 u2 hz1 hz2 hne hu1 hu2
  · rcases List.mem_append.1 hp with hp | hp
    · exact h.pok p hp
    · rw [List.mem_singleton.1 hp]; exact ⟨hys.1, hys.2, hy ▸ hx⟩
  · refine Fr.trans (f1.mono (fun k _ e => ?_)) f2 (fun j hj e => ?_)
    · obtain ⟨g1, _, cs, g2⟩ := own_blk hrow e
      exact ⟨g1, .inr ⟨cs, _, g2, .inr (.inr rfl)⟩⟩
    · subst e
      obtain ⟨es, cl, hb⟩ := h.map.isMapObj
      exact ⟨h.bb, .inl ⟨es, cl, hb⟩⟩
end
end Go.Proofs.Ytekigojbkhjdbaa
