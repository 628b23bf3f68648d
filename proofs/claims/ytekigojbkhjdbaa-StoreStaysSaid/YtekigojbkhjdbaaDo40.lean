/- An act with a store, by the program and by the document. -/
import Derived.Test.YtekigojbkhjdbaaStoreH
namespace Go.Proofs.Ytekigojbkhjdbaa
set_option linter.all false
open Go.RowKit Go.Maps
set_option maxRecDepth 100000

def P2 (P Q : List V4I) (now : Nat) (x : ActI) : List V4I := if x.a = 1 then P ++ comQ x.b ((now + 1 : Nat) : Int) Q else P
def Q2 (Q : List V4I) (x : ActI) : List V4I := if x.a = 0 then Q ++ [⟨x.b, x.c, x.d, 0⟩] else if x.a = 1 then selV (notP x.b) (fun x => x) Q else if x.a = 2 then selV (notP x.b) (fun x => x) Q else Q
def n2 (now : Nat) (x : ActI) : Nat := if x.a = 1 then now + 1 else now
/-- The program's store behind k acts. -/
def SSt (W : World) (B c k : Nat) (P Q : List V4I) (now : Nat) : Prop := (∃ b n Ao co m, n ≤ 200 * k ∧ StoreIs W B c b n Ao co m P Q now) ∧ P.length + Q.length ≤ k ∧ now ≤ k
theorem SSt.fr0 {W W' : World} {B c k now : Nat} {P Q : List V4I} (h : SSt W B c k P Q now) (f : Fr0 W W') : SSt W' B c k P Q now := by
  obtain ⟨⟨b, n, Ao, co, m, hn, hs⟩, h2⟩ := h
  exact ⟨⟨b, n, Ao, co, m, hn, hs.fr0 f⟩, h2⟩
theorem sel_split (Q : List V4I) (id n : Int) : (comQ id n Q).length + (selV (notP id) (fun x => x) Q).length = Q.length := by
  unfold comQ selV
  simp only [List.length_map]
  induction Q with
  | nil => rfl
  | cons x Q ih =>
    simp only [List.filter_cons]
    by_cases h : x.i = id
    · have h1 : idP id x = true := by simp [idP, h]
      have h2 : notP id x = false := by simp [notP, h]
      rw [h1, h2]; simp; omega
    · have h1 : idP id x = false := by simp [idP, h]
      have h2 : notP id x = true := by simp [notP, h]
      rw [h1, h2]; simp; omega
theorem selV_app {β : Type} (p : V4I → Bool) (f : V4I → β) (a b : List V4I) : selV p f (a ++ b) = selV p f a ++ selV p f b := by simp [selV]
theorem selV_none {β : Type} {p : V4I → Bool} {f : V4I → β} {l : List V4I} (h : ∀ x ∈ l, p x = false) : selV p f l = [] := by
  unfold selV
  rw [List.filter_eq_nil_iff.2 (fun x hx => by simp [h x hx])]; rfl
theorem selV_all {p : V4I → Bool} {l : List V4I} (h : ∀ x ∈ l, p x = true) : selV p (fun x => x) l = l := by
  unfold selV
  rw [List.filter_eq_self.2 h, List.map_id']
theorem selV_congr {β : Type} {p q : V4I → Bool} {f : V4I → β} {l : List V4I} (h : ∀ x ∈ l, p x = q x) : selV p f l = selV q f l := by
  unfold selV
  rw [List.filter_congr h]
theorem abortL_split {P Q : List V4I} {now : Nat} (hp : POk now P) (hq : QOk Q) (id : Int) : abortL (P ++ Q) id = P ++ selV (notP id) (fun x => x) Q := by
  unfold abortL
  rw [selV_app, selV_all (fun x hx => by have := (hp x hx).1; simp [abortP]; right; omega)]
  congr 1
  refine selV_congr (fun x hx => ?_)
  have := (hq x hx).1
  simp [abortP, notP, this]
  rfl
theorem commitL_split {P Q : List V4I} {now : Nat} (hp : POk now P) (hq : QOk Q) (id n : Int) : commitL (P ++ Q) id n = (P ++ comQ id n Q) ++ selV (notP id) (fun x => x) Q := by
  unfold commitL comQ
  rw [selV_app, selV_app, selV_app, selV_all (p := doneP) (l := P) (fun x hx => by have := (hp x hx).1; simp [doneP]; omega),
    selV_none (p := doneP) (l := Q) (fun x hx => by have := (hq x hx).1; simp [doneP, this]),
    selV_none (p := mineP id) (l := P) (fun x hx => by have := (hp x hx).1; simp [mineP]; intro h; omega),
    selV_none (p := openP id) (l := P) (fun x hx => by have := (hp x hx).1; simp [openP]; intro h; omega),
    selV_congr (p := mineP id) (q := idP id) (l := Q) (fun x hx => by have := (hq x hx).1; simp [mineP, idP, this]),
    selV_congr (p := openP id) (q := notP id) (l := Q) (fun x hx => by have := (hq x hx).1; simp [openP, notP, this])]
  simp
theorem len2 (P Q : List V4I) (now : Nat) (x : ActI) : (P2 P Q now x).length + (Q2 Q x).length ≤ P.length + Q.length + 1 := by
  have h1 := sel_split Q x.b ((now + 1 : Nat) : Int)
  have h2 := selV_len (notP x.b) (fun x => x) Q
  unfold P2 Q2
  by_cases a0 : x.a = 0
  · rw [if_pos a0, if_neg (by omega)]; simp; omega
  · rw [if_neg a0]
    by_cases a1 : x.a = 1
    · rw [if_pos a1, if_pos a1, List.length_append]; omega
    · rw [if_neg a1, if_neg a1]
      split <;> omega
theorem heap_foot {B k : Nat} {W W' : World} {cs : Array Value} {t : Nat} (h : W.heap[k]? = some (.cells cs t (0, 0))) (f : Fr (FootS B W) W W') (h1 : t ≠ 74) (h2 : t ≠ 107) (h3 : t ≠ 113) : W'.heap[k]? = some (.cells cs t (0, 0)) :=
  f.heap h (fun hF => by
    rcases hF.2 with ⟨es, cl, e⟩ | ⟨cs', t', e, ht⟩
    · rw [h] at e; cases e
    · rw [h] at e; cases e; rcases ht with h | h | h <;> contradiction)
theorem Two.foot {B b t : Nat} {W W' : World} {u v : Value} (h : Two W b t u v) (f : Fr (FootS B W) W W') (h1 : t ≠ 74) (h2 : t ≠ 107) (h3 : t ≠ 113) : Two W' b t u v := heap_foot h f h1 h2 h3
def FourA (W : World) (b t : Nat) (x : ActI) : Prop := W.heap[b]? = some (.cells #[.int .i64 x.a, .int .i64 x.b, .int .i64 x.c, .int .i64 x.d] t (0, 0))
section
variable {W : World} {b t : Nat} {x : ActI}
theorem FourA.k0 (h : FourA W b t x) : W.cell? ⟨b, 0, none⟩ = some (.int .i64 x.a) := by unfold FourA at h; simp [World.cell?, h]
theorem FourA.k1 (h : FourA W b t x) : W.cell? ⟨b, 1, none⟩ = some (.int .i64 x.b) := by unfold FourA at h; simp [World.cell?, h]
theorem FourA.k2 (h : FourA W b t x) : W.cell? ⟨b, 2, none⟩ = some (.int .i64 x.c) := by unfold FourA at h; simp [World.cell?, h]
theorem FourA.k3 (h : FourA W b t x) : W.cell? ⟨b, 3, none⟩ = some (.int .i64 x.d) := by unfold FourA at h; simp [World.cell?, h]
end
def Do40Post (W : World) (B c BL k : Nat) (P Q : List V4I) (now : Nat) (v : Value) (w' : World) : Prop :=
  ∃ A' c', v = .tuple #[stV A' (P ++ Q).length c' (now : Int), .bool true] ∧ Fr (FootS B W) W w' ∧ SSt w' B c k P Q now ∧ StAt w' BL A' c' (P ++ Q)
/-- The result's box written, and the function's end. -/
theorem do_end {W w3 : World} {B c BL k bR : Nat} {P Q : List V4I} {now : Nat} {A : Option Addr} {cl : Nat} (hbR : W.heap.size ≤ bR) (hF : Fr (FootS B W) W w3) (hS : SSt w3 B c k P Q now) (hL : StAt w3 BL A cl (P ++ Q)) {u v : Value} (hR : Two w3 bR 58 u v) (s n : Value) :
    Fr (FootS B W) W ((w3.setCell ⟨bR, 0, none⟩ s).setCell ⟨bR, 1, none⟩ n) ∧ SSt ((w3.setCell ⟨bR, 0, none⟩ s).setCell ⟨bR, 1, none⟩ n) B c k P Q now ∧ StAt ((w3.setCell ⟨bR, 0, none⟩ s).setCell ⟨bR, 1, none⟩ n) BL A cl (P ++ Q) := by
  have f : Fr (fun j => j = bR) w3 ((w3.setCell ⟨bR, 0, none⟩ s).setCell ⟨bR, 1, none⟩ n) := (fr_setCell (S := fun j => j = bR) w3 ⟨bR, 0, none⟩ s (fun _ => rfl)).setCell ⟨bR, 1, none⟩ n (fun _ => rfl)
  refine ⟨hF.trans f (fun j hj e => by omega), ?_, own_fr hL f (fun q hq e => own_ne hL hR (by decide) (e ▸ hq))⟩
  obtain ⟨⟨b, n', Ao, co, m, hn, hs⟩, h2⟩ := hS
  have hcR : c ≠ bR := by
    rintro rfl
    have := hs.box
    unfold Two at hR
    rw [hR] at this
    cases this
  refine ⟨⟨b, n', Ao, co, m, hn, ⟨f.heap hs.box hcR, own_fr hs.opn f (fun q hq e => own_ne hs.opn hR (by decide) (e ▸ hq)), hs.map.fr f (fun e => hs.map.ne_cells hR e.symm), fun x hx => ?_, hs.apart, hs.bc, hs.bb, hs.pok, hs.qok⟩⟩, h2⟩
  refine (hs.rows x hx).imp id ?_
  rintro ⟨v, e, hr⟩
  exact ⟨v, e, own_fr hr f (fun q hq e => own_ne hr hR (by decide) (e ▸ hq))⟩
end Go.Proofs.Ytekigojbkhjdbaa
