/- Keep, NextS, in one text. -/
import Derived.Test.YtdcjfpjpboafnaaDoorFind
namespace Go.Proofs.YtdcjfpjpboafnaaDoor
set_option linter.all false
open Go.RowKit Go.Shelf
attribute [local go_sem] Oper.semAt_some
set_option maxRecDepth 100000

/-- The finder, as it is asked: nothing of it is written any more. -/
def FinAsk (W : World) (q : Nat) (r : Option Addr) (wg wa n : Nat) (pw : Nat → Bool) (a b c : Int) (far : Nat → Bool → Option Nat) : Prop :=
  ∃ mb ring top m, FinBlk W q r (some ⟨wg, 0, none⟩) a b c mb ring top m ∧ MapIs Tryd.prog 63 sptL sptO W mb (kntF n far) (farM far) ∧ IsBits W wg wa n pw
theorem FinI.ask {W : World} {B q wg wa n mb : Nat} {r : Option Addr} {pw : Nat → Bool} {a b c : Int} {far : Nat → Bool → Option Nat} {l : List (Nat × Bool)} (h : FinI W B q r wg wa n pw a b c mb far l) : FinAsk W q r wg wa n pw a b c far := by
  obtain ⟨ring, top, m, hb⟩ := h.blk
  exact ⟨mb, ring, top, m, hb, h.map, h.wbits⟩
theorem FinAsk.grow {W W' : World} {C q wg wa n : Nat} {r : Option Addr} {pw : Nat → Bool} {a b c : Int} {far : Nat → Bool → Option Nat} (h : FinAsk W q r wg wa n pw a b c far) (f : Grow C W W') : FinAsk W' q r wg wa n pw a b c far := by
  obtain ⟨mb, ring, top, m, hb, hm, hw⟩ := h
  exact ⟨mb, ring, top, m, f.heap hb, hm.grow f, hw.grow f⟩
theorem FinAsk.fr0 {W W' : World} {q wg wa n : Nat} {r : Option Addr} {pw : Nat → Bool} {a b c : Int} {far : Nat → Bool → Option Nat} (h : FinAsk W q r wg wa n pw a b c far) (f : Fr0 W W') : FinAsk W' q r wg wa n pw a b c far := h.grow (Fr0.grow f 0)
theorem NumA_is {W : World} {q wg wa n : Nat} {r : Option Addr} {pw : Nat → Bool} {a b c : Int} {far : Nat → Bool → Option Nat} (h : FinAsk W q r wg wa n pw a b c far) {v : Int} (hv : (Lit.int .i64 v).wf = true) (d : Bool) :
    Calls Tryd.prog 26 #[.pointer (some ⟨q, 0, none⟩), .agg #[.int .i64 v, .bool d]] W (Rets (fun x w' => x = .int .i64 (numF far v d) ∧ Fr0 W w')) := by
  obtain ⟨mb, ring, top, m, hb, hm, hw⟩ := h
  exact Num_is hb hm hv d
/-- A row of spots that is gathered in a variable. -/
def SptBox (W : World) (B ob : Nat) (v : Value) (l : List (Int × Bool)) : Prop := Box W ob 72 v ∧ W.ownsRow B 63 2 v l.length (sptCells l)
/-- Of a spot: is it so far? -/
def keepS (far : Nat → Bool → Option Nat) (m : Int) (d : Bool) (l : List (Int × Bool)) (x : Int) : List (Int × Bool) := if numF far x d == m then l ++ [(x, d)] else l
def KeepPost (W : World) (B ob : Nat) (v0 : Value) (l : List (Int × Bool)) (v : Value) (w' : World) : Prop :=
  v = .tuple #[] ∧ ∃ v', SptBox w' B ob v' l ∧ Fr (fun k => k = ob ∨ v0.ownBlock = some k) W w' ∧ (v'.ownBlock = v0.ownBlock ∨ ∃ k, v'.ownBlock = some k ∧ W.heap.size ≤ k)
set_option maxHeartbeats 4000000 in
theorem Keep_is {W : World} {q wg wa n B fb nb ob : Nat} {r : Option Addr} {pw : Nat → Bool} {a b c m : Int} {far : Nat → Bool → Option Nat} {v0 : Value} {l : List (Int × Bool)} (h : FinAsk W q r wg wa n pw a b c far) (hf : Box W fb 58 (.pointer (some ⟨q, 0, none⟩))) (hn : Box W nb 3 (.int .i64 m))
    (ho : SptBox W B ob v0 l) (hl : l.length ≤ 1000000) (hB : B ≤ W.heap.size) {x : Int} (hx : (Lit.int .i64 x).wf = true) (d : Bool) :
    Calls Tryd.prog 65 #[.agg #[.int .i64 x, .bool d], .pointer (some ⟨fb, 0, none⟩), .pointer (some ⟨nb, 0, none⟩), .pointer (some ⟨ob, 0, none⟩)] W (Rets (KeepPost W B ob v0 (keepS far m d l x))) := by
  obtain ⟨i0, hi, hz0, hz1, hz2⟩ := info_parts info_spt
  obtain ⟨w0, hw0⟩ : ∃ w0, W.alloc (.cells #[.int .i64 x, .bool d] 63) = w0 := ⟨_, rfl⟩
  have hf0 : Fr0 W w0 := hw0 ▸ fr_alloc _ _ _
  have hx0 := hw0 ▸ two_spt W (.int .i64 x) (.bool d)
  have hs0 : w0.heap.size = W.heap.size + 1 := by rw [← hw0]; simp
  have c0 := (hf.fr0 hf0).cell
  have c1 := (hn.fr0 hf0).cell
  have HN := Lib.hid (fun w' (f : Fr0 w0 w') => NumA_is (h.fr0 (hf0.trans0 f)) hx d)
  have HKS := Lib.hid (show ∀ w', Fr0 w0 w' → (Fr0 w0 w' ∧ w'.cell? ⟨fb, 0, none⟩ = some (.pointer (some ⟨q, 0, none⟩)) ∧ w'.cell? ⟨nb, 0, none⟩ = some (.int .i64 m) ∧ w'.cell? ⟨W.heap.size, 0, none⟩ = some (.int .i64 x) ∧ w'.cell? ⟨W.heap.size, 1, none⟩ = some (.bool d)) from fun w' f => ⟨f, f.cell c0 (fun x => x), f.cell c1 (fun x => x), f.cell hx0.1 (fun x => x), f.cell hx0.2 (fun x => x)⟩)
  have HX0 := Lib.hid hx0
  have HO := Lib.hid ho
  have HS0 := Lib.hid hs0
  clear h hf hn ho c0 c1 hx0 hs0
  unfold keepS
  generalize hz : numF far x d = z at HN
  clear hz
  cases hzm : (z == m) with
  | true =>
    simp only [if_true]
    go_enter Tryd.func65, Tryd.ntmps65
    go_upto_region 1 with (fail)
    clear hw0
    go_region_held_law (fun w' => Fr0 w0 w' ∧ w'.cell? ⟨fb, 0, none⟩ = some (.pointer (some ⟨q, 0, none⟩)) ∧ w'.cell? ⟨nb, 0, none⟩ = some (.int .i64 m) ∧ w'.cell? ⟨W.heap.size, 0, none⟩ = some (.int .i64 x) ∧ w'.cell? ⟨W.heap.size, 1, none⟩ = some (.bool d))
      ((refine HKS.out _ ?_; first | exact fr_drew _ _ | assumption | exact And.left (by assumption)))
      (first
        | (go_at_call 26; refine (HN.out _ (And.left (by assumption))).mono ?_; rintro e w1 ⟨_, rfl, rfl, hf1⟩; have hF := Fr.trans0 (And.left (by assumption)) hf1))
    have hF1 : Fr0 W w1 := hf0.trans0 hF
    have y0 := hF.cell HX0.out.1 (fun x => x)
    have y1 := hF.cell HX0.out.2 (fun x => x)
    obtain ⟨k4, k5⟩ := HO.out
    replace k4 := k4.fr0 hF1
    replace k5 := own_fr0 k5 hF1
    have k4c := k4.cell
    have hsz := hF1.size
    go_wp2_with (at_builtin; refine wpList_append_own_at _ rfl _ _ 72 rfl B 63 i0 _ 2 16 Tryd.underlying72 hi hz0 hz1 hz2 rfl (by decide) _ _ _ rfl (k5.alloc _) ⟨w1.heap.size, 0, none⟩ 1 1 [.int .i64 x, .bool d] rfl rfl (spt_new _ (x, d)) (by simp [Value.oneCell']) (by unfold maxLen; omega) (by omega) (by simp; omega) ?_; intro v' w3 hown' hgrow _ hblk; obtain ⟨g', cap', rfl⟩ := ownsRow_succ hown'; obtain ⟨e1, e2, e3, e4⟩ := collect k4 (by decide) k5 hown' hgrow; have e1c := e1.cell; have e1f := e1.frozen)
    go_end0
    refine ⟨_, rfl, rfl, _, ⟨e2, by simpa [sptCells_snoc] using e3⟩, ?_, hblk.imp id (fun e => ⟨_, e, by simp; omega⟩)⟩
    exact (hF1.mono (fun _ _ x => x.elim)).trans e4 (fun j _ hs => hs)
  | false =>
    simp only [Bool.false_eq_true, if_false]
    go_enter Tryd.func65, Tryd.ntmps65
    go_upto_region 1 with (fail)
    clear hw0
    go_region_held_law (fun w' => Fr0 w0 w' ∧ w'.cell? ⟨fb, 0, none⟩ = some (.pointer (some ⟨q, 0, none⟩)) ∧ w'.cell? ⟨nb, 0, none⟩ = some (.int .i64 m) ∧ w'.cell? ⟨W.heap.size, 0, none⟩ = some (.int .i64 x) ∧ w'.cell? ⟨W.heap.size, 1, none⟩ = some (.bool d))
      ((refine HKS.out _ ?_; first | exact fr_drew _ _ | assumption | exact And.left (by assumption)))
      (first
        | (go_at_call 26; refine (HN.out _ (And.left (by assumption))).mono ?_; rintro e w1 ⟨_, rfl, rfl, hf1⟩; have hF := Fr.trans0 (And.left (by assumption)) hf1))
    have hF1 : Fr0 W w1 := hf0.trans0 hF
    go_wp2_with fail
    go_end0
    exact ⟨_, rfl, rfl, v0, ⟨HO.out.1.fr0 hF1, own_fr0 HO.out.2 hF1⟩, hF1.mono (fun _ _ x => x.elim), .inl rfl⟩
/-- What keep is called with. -/
abbrev keepF (fb nb ob : Nat) : Value := .func (.func 65) #[] #[.pointer (some ⟨fb, 0, none⟩), .pointer (some ⟨nb, 0, none⟩), .pointer (some ⟨ob, 0, none⟩)]
end Go.Proofs.YtdcjfpjpboafnaaDoor
namespace Go.Proofs.YtdcjfpjpboafnaaDoor
set_option linter.all false
open Go.RowKit Go.Shelf
attribute [local go_sem] Oper.semAt_some
set_option maxRecDepth 100000

def keepsL (far : Nat → Bool → Option Nat) (m : Int) (d : Bool) (l : List (Int × Bool)) (xs : List Int) : List (Int × Bool) := xs.foldl (keepS far m d) l
theorem keepsL_snoc (far : Nat → Bool → Option Nat) (m : Int) (d : Bool) (l : List (Int × Bool)) (xs : List Int) (x : Int) : keepsL far m d l (xs ++ [x]) = keepS far m d (keepsL far m d l xs) x := by simp [keepsL]
theorem keepsL_len (far : Nat → Bool → Option Nat) (m : Int) (d : Bool) (xs : List Int) : ∀ l, (keepsL far m d l xs).length ≤ l.length + xs.length := by
  induction xs with
  | nil => intro l; exact Nat.le_refl _
  | cons x xs ih =>
    intro l
    have h := ih (keepS far m d l x)
    have h2 : (keepS far m d l x).length ≤ l.length + 1 := by unfold keepS; split <;> simp
    simp only [keepsL, List.foldl_cons, List.length_cons] at h ⊢
    omega
theorem keepsL_eq (far : Nat → Bool → Option Nat) (m : Int) (d : Bool) (xs : List Int) : ∀ l, keepsL far m d l xs = l ++ (xs.filter (fun x => numF far x d == m)).map (fun x => (x, d)) := by
  induction xs with
  | nil => intro l; simp [keepsL]
  | cons x xs ih =>
    intro l
    have h := ih (keepS far m d l x)
    simp only [keepsL, List.foldl_cons] at h ⊢
    rw [h]
    unfold keepS
    cases e : (numF far x d == m) <;> simp [e]
theorem nextL_len (J : List ArcI) (v : Nat) (m : Int) (pw : Nat → Bool) : (nextL J v m pw).length ≤ J.length := by
  rw [nextL, List.length_map]
  exact Nat.le_trans (List.length_filter_le _ _) (outL_len J v m)
/-- While neighbours are gone through. -/
def NxtI (W : World) (q u : Nat) (d : Bool) (m : Int) (far : Nat → Bool → Option Nat) (kk g n : Nat) (J : List ArcI) (ab : Nat) (A : Option Addr) (cc : Nat) (msk : Int) (wg wa : Nat) (pw : Nat → Bool) (hi : Nat) (Ds : List Nat) (dd : Bool) (l0 : List (Int × Bool)) (pre : List Int) (W' : World) : Prop :=
  ∃ v, SptBox W' W.heap.size (W.heap.size + 3) v (keepsL far m dd l0 pre) ∧ Fr0 W W' ∧ Box W' W.heap.size 58 (.pointer (some ⟨q, 0, none⟩)) ∧ W'.heap[W.heap.size + 1]? = some (.cells #[.int .i64 u, .bool d] 63 (0, 0)) ∧ Box W' (W.heap.size + 2) 3 (.int .i64 m) ∧
    Box W' (W.heap.size + 4) 89 (keepF W.heap.size (W.heap.size + 2) (W.heap.size + 3)) ∧ nextK kk g n J ab A cc u msk wg wa n pw W' ∧ Marks W.heap.size hi Ds W' ∧ (∀ k, v.ownBlock = some k → W.heap.size + 5 ≤ k) ∧ W.heap.size + 5 ≤ W'.heap.size
def NxtO (ob : Nat) (W : World) (k : Nat) : Prop := k = ob ∨ ∃ v, Box W ob 72 v ∧ v.ownBlock = some k
theorem Box.uniq {W : World} {c t : Nat} {v v' : Value} (h : Box W c t v) (h' : Box W c t v') : v = v' := by
  unfold Box at h h'
  rw [h] at h'
  injection h' with h'
  injection h' with h' _
  simpa using h'
section
variable {W W1 W2 : World} {q u kk g n ab cc wg wa hi C : Nat} {pw : Nat → Bool} {msk m : Int} {d dd : Bool} {far : Nat → Bool → Option Nat} {J : List ArcI} {A : Option Addr} {Ds : List Nat} {l0 : List (Int × Bool)} {pre : List Int}
theorem NxtI.grow (h : NxtI W q u d m far kk g n J ab A cc msk wg wa pw hi Ds dd l0 pre W1) (f : Grow C W1 W2) (hC : W.heap.size ≤ C) (hh : hi ≤ C) : NxtI W q u d m far kk g n J ab A cc msk wg wa pw hi Ds dd l0 pre W2 := by
  obtain ⟨v, h1, h3, h7, h8, h9, h10, ⟨k1, k2, k3, k4, k5, k6⟩, h11, h12, h13⟩ := h
  exact ⟨v, ⟨h1.1.grow f, own_grow h1.2 f⟩, Fr.andGrow h3 f hC, h7.grow f, f.heap h8, h9.grow f, h10.grow f, ⟨k1.grow f, k2.grow f, k3.grow f, k4.grow f, k5.grow f, k6.grow f⟩, h11.grow f hh, h12, Nat.le_trans h13 f.size⟩
theorem NxtI.olow (h : NxtI W q u d m far kk g n J ab A cc msk wg wa pw hi Ds dd l0 pre W1) (f : Grow C W1 W2) {k : Nat} (hk : NxtO (W.heap.size + 3) W2 k) : NxtO (W.heap.size + 3) W1 k := by
  obtain ⟨v, h1, _⟩ := h
  rcases hk with e | ⟨v', hb, e⟩
  · exact .inl e
  · have := (h1.1.grow f).uniq hb
    subst this
    exact .inr ⟨v, h1.1, e⟩
theorem NxtI.lt (h : NxtI W q u d m far kk g n J ab A cc msk wg wa pw hi Ds dd l0 pre W1) {k : Nat} (hk : NxtO (W.heap.size + 3) W1 k) : k < W1.heap.size := by
  obtain ⟨v, h1, _, _, _, _, _, _, _, _, h13⟩ := h
  rcases hk with e | ⟨v', hb, e⟩
  · omega
  · have := h1.1.uniq hb
    subst this
    exact (own_blk h1.2 e).2.1
theorem NxtI.put {x : Int} {v : Value} {v0 : Value} (h : NxtI W q u d m far kk g n J ab A cc msk wg wa pw hi Ds dd l0 pre W1) (hv : Box W1 (W.heap.size + 3) 72 v0) (hG : IsG W g n J ab A cc) (hW : IsBits W wg wa n pw)
    (hp : KeepPost W1 W.heap.size (W.heap.size + 3) v0 (keepS far m dd (keepsL far m dd l0 pre) x) v W2) :
    NxtI W q u d m far kk g n J ab A cc msk wg wa pw hi Ds dd l0 (pre ++ [x]) W2 ∧ KeepO (NxtO (W.heap.size + 3)) W1 W2 ∧ ND (W.heap.size + 5) W1 W2 := by
  obtain ⟨v1, h1, h3, h7, h8, h9, h10, ⟨k1, k2, k3, k4, k5, k6⟩, h11, h12, h13⟩ := h
  have e := h1.1.uniq hv
  subst e
  obtain ⟨_, v2, p1, p2, p3⟩ := hp
  have hsz1 := h3.size
  have hno : ∀ j, j < W.heap.size → ¬ (j = W.heap.size + 3 ∨ v1.ownBlock = some j) := fun j hj hs => hs.elim (fun e => by omega) (fun e => by have := h12 _ e; omega)
  have hF : Fr0 W W2 := Fr.trans h3 p2 hno
  have nb : ∀ {k t : Nat} {w : Value}, Box W1 k t w → t ≠ 63 → k ≠ W.heap.size + 3 → ¬ (k = W.heap.size + 3 ∨ v1.ownBlock = some k) := fun {k t w} hb ht hk hs => hs.elim hk (fun e => own_ne h1.2 hb ht e)
  have hnk : ∀ {k t : Nat} {w : Value}, Box W1 k t w → t ≠ 72 → k ≠ W.heap.size + 3 := fun {k t w} hb ht e => by
    subst e
    have hv' := h1.1
    unfold Box at hb hv'
    rw [hv'] at hb
    injection hb with hb
    injection hb with _ hb _
    exact ht hb.symm
  refine ⟨⟨v2, by rw [keepsL_snoc]; exact p1, hF, h7.fr p2 (nb h7 (by decide) (by omega)), p2.heap h8 (fun hs => hs.elim (fun e => by omega) (fun e => by have := h12 _ e; omega)), h9.fr p2 (nb h9 (by decide) (by omega)), h10.fr p2 (nb h10 (by decide) (by omega)),
    ⟨k1.fr p2 (nb k1 (by decide) (hnk k1 (by decide))), k2.fr p2 (nb k2 (by decide) (hnk k2 (by decide))), k3.fr p2 (nb k3 (by decide) (hnk k3 (by decide))), k4.fr p2 (nb k4 (by decide) (hnk k4 (by decide))), hG.fr0 hF, hW.fr0 hF⟩, h11.fr p2, fun k hk => ?_, Nat.le_trans h13 p2.size⟩, fun j o hj hd hO => ⟨(p2.same j (heap_lt hj) (fun hs => hO (hs.imp id (fun e => ⟨v1, h1.1, e⟩)))).trans hj, fun hk => ?_⟩, p2.ND _⟩
  · rcases p3 with e | ⟨i, e, hi⟩
    · exact h12 _ (e ▸ hk)
    · rw [e] at hk; cases hk; omega
  · rcases hk with e | ⟨v', hb, e⟩
    · exact hO (.inl e)
    · have := p1.1.uniq hb
      subst this
      rcases p3 with e2 | ⟨i, e2, hi⟩
      · exact hO (.inr ⟨v1, h1.1, e2 ▸ e⟩)
      · rw [e2] at e; cases e; have := heap_lt hj; omega
end
set_option maxHeartbeats 8000000 in
theorem NextS_yes {W : World} {q wg wa n u g : Nat} {r pt : Option Addr} {J : List ArcI} {pw : Nat → Bool} {a b c m : Int} {far : Nat → Bool → Option Nat} (h : FinAsk W q r wg wa n pw a b c far)
    (hR : IsR W r (some ⟨g, 0, none⟩) pt) (hG : GP W (some ⟨g, 0, none⟩) n J) (hJ : J.length ≤ 100000) (hpw : ∀ u, pw u = true → u < n) (hn : n ≤ 1000) (hu : u < n) :
    Calls Tryd.prog 45 #[.pointer (some ⟨q, 0, none⟩), .agg #[.int .i64 (u : Int), .bool true], .int .i64 m] W
      (Rets (SptsPost W (keepsL far m true [] (nextL J u c pw)))) := by
  obtain ⟨w5, hw5⟩ : ∃ w5, ((((W.alloc (.cells #[.pointer (some ⟨q, 0, none⟩)] 58)).alloc (.cells #[.int .i64 (u : Int), .bool true] 63)).alloc (.cells #[.int .i64 m] 3)).alloc (.cells #[.slice none 0 0] 72)).alloc (.cells #[keepF W.heap.size (W.heap.size + 2) (W.heap.size + 3)] 89) = w5 := ⟨_, rfl⟩
  have hi1 : Box w5 W.heap.size 58 (.pointer (some ⟨q, 0, none⟩)) := hw5 ▸ (Box.new W _ _).fr0 ((((fr_alloc _ _ _).alloc _).alloc _).alloc _)
  have hi2 : w5.heap[W.heap.size + 1]? = some (.cells #[.int .i64 (u : Int), .bool true] 63 (0, 0)) := by
    have := World.alloc_heap_new (W.alloc (.cells #[.pointer (some ⟨q, 0, none⟩)] 58)) (.cells #[.int .i64 (u : Int), .bool true] 63)
    rw [World.size_alloc] at this
    exact hw5 ▸ (((fr_alloc (fun _ => False) _ _).alloc _).alloc _).heap this (fun x => x)
  have hi3 : Box w5 (W.heap.size + 2) 3 (.int .i64 m) := by
    have := Box.new ((W.alloc (.cells #[.pointer (some ⟨q, 0, none⟩)] 58)).alloc (.cells #[.int .i64 (u : Int), .bool true] 63)) 3 (.int .i64 m)
    rw [World.size_alloc, World.size_alloc] at this
    exact hw5 ▸ this.fr0 ((fr_alloc _ _ _).alloc _)
  have hi4 : Box w5 (W.heap.size + 3) 72 (.slice none 0 0) := by
    have := Box.new (((W.alloc (.cells #[.pointer (some ⟨q, 0, none⟩)] 58)).alloc (.cells #[.int .i64 (u : Int), .bool true] 63)).alloc (.cells #[.int .i64 m] 3)) 72 (.slice none 0 0)
    rw [World.size_alloc, World.size_alloc, World.size_alloc] at this
    exact hw5 ▸ this.fr0 (fr_alloc _ _ _)
  have hi5 : Box w5 (W.heap.size + 4) 89 (keepF W.heap.size (W.heap.size + 2) (W.heap.size + 3)) := by
    have := Box.new ((((W.alloc (.cells #[.pointer (some ⟨q, 0, none⟩)] 58)).alloc (.cells #[.int .i64 (u : Int), .bool true] 63)).alloc (.cells #[.int .i64 m] 3)).alloc (.cells #[.slice none 0 0] 72)) 89 (keepF W.heap.size (W.heap.size + 2) (W.heap.size + 3))
    rw [World.size_alloc, World.size_alloc, World.size_alloc, World.size_alloc] at this
    exact hw5 ▸ this
  have hT3 : Fr0 W w5 := hw5 ▸ ((((fr_alloc _ _ _).alloc _).alloc _).alloc _).alloc _
  have hs5 : w5.heap.size = W.heap.size + 5 := by rw [← hw5]; simp only [World.size_alloc]
  have s1 : w5.cell? ⟨W.heap.size + 1, 1, none⟩ = some (.bool true) := by unfold World.cell?; rw [hi2]; rfl
  have H := Lib.hid h
  have HG := Lib.hid hG
  have HR := Lib.hid hR
  have HS5 := Lib.hid hs5
  clear h hG hR
  refine (callsIn_wide (n := 0)).1 (callsIn_of_wp_marks Tryd.func45 rfl trivial ?_)
  simp only [Tryd.ntmps45, List.size_toArray, List.length_cons, List.length_nil, Nat.reduceAdd, Nat.reduceSub, Array.replicate_succ, Array.replicate_zero, List.push_toArray, List.append_toArray, List.nil_append, List.cons_append]
  clear hs5
  gi_wp2_with fail
  clear hw5
  obtain ⟨rg, ab, A, cc, erg, hgr⟩ : ∃ rg ab A cc, (some ⟨g, 0, none⟩ : Option Addr) = some ⟨rg, 0, none⟩ ∧ IsG W rg n J ab A cc := by
    rcases HG.out with ⟨e, _⟩ | h
    · cases e
    · exact h
  cases erg
  have hWb : IsBits W wg wa n pw := by obtain ⟨_, _, _, _, _, _, hw⟩ := H.out; exact hw
  have hs5 := HS5.out
  have hO3 : ∃ v, SptBox w5 W.heap.size (W.heap.size + 3) v (keepsL far m true [] []) ∧ (∀ k, v.ownBlock = some k → W.heap.size + 5 ≤ k) := ⟨_, ⟨hi4, own_nil _ _ _ _⟩, fun k hk => by cases hk⟩
  have hK3 : Marks W.heap.size w5.heap.size [] w5 := Marks.nil _ _ _
  have hkk : W.heap.size + 5 ≤ w5.heap.size := by omega
  clear s1 hi4 hs5 HS5
  obtain ⟨w3, rfl⟩ : ∃ w3, w3 = w5 := ⟨_, rfl⟩
  obtain ⟨mb, ring, top, mm, hb, hmu, hwu⟩ := H.out.fr0 hT3
  have e0 := (hi1.fr0 (fr_drew (fun _ => False) _)).cell
  have s0 : w3.drew.cell? ⟨W.heap.size + 1, 0, none⟩ = some (.int .i64 (u : Int)) := by unfold World.cell?; rw [(fr_drew (fun _ => False) _).heap hi2 (fun x => x)]; rfl
  have t1 : w3.cell? ⟨W.heap.size + 1, 1, none⟩ = some (.bool true) := by unfold World.cell?; rw [hi2]; rfl
  have c0 := (hb.fr0 (fr_drew (fun _ => False) _)).c0
  have c1 := (hb.fr0 (fr_drew (fun _ => False) _)).c1
  have c2 := (hb.fr0 (fr_drew (fun _ => False) _)).c4
  have HIN := Lib.hid (OutN_is (HR.out.fr0 hT3.drew) (some ⟨wg, 0, none⟩) (u : Int) c)
  clear hb hmu hwu
  gi_wp2_with fail
  refine wpIn_wide.2 ?_
  refine wp_region_still_tail 15 (by kernel_rfl) (by kernel_rfl) ?_
  simp only [List.take_succ_cons, List.take_zero, List.drop_succ_cons, List.drop_zero]
  change wpStill _ _ (World.drew _) _ _ _
  repeat still_step
  refine wpStill_nil ?_
  change wpList _ _ _ _ _ (World.drew _)
  go_wp2_with (go_at_call 66; refine (HIN.out).mono ?_; rintro e w4 ⟨rfl, rfl⟩)
  gi_wp2_with fail
  obtain ⟨w4, hw4⟩ : ∃ w4, w4 = ((((w3.alloc (.cells #[.pointer (some ⟨g, 0, none⟩)] 66)).alloc (.cells #[.int .i64 (u : Int)] 3)).alloc (.cells #[.pointer (some ⟨wg, 0, none⟩)] 44)).alloc (.cells #[.int .i64 c] 3)).drew := ⟨_, rfl⟩
  rw [← hw4]
  obtain ⟨kk, hkk'⟩ : ∃ kk, w3.heap.size = kk := ⟨_, rfl⟩
  simp only [hkk']
  have hg4 : Fr0 w3 w4 := by rw [hw4]; exact ((((fr_alloc _ _ _).alloc _).alloc _).alloc _).drew
  have hs4 : w4.heap.size = kk + 4 := by rw [hw4]; show (World.alloc _ _).heap.size = _; simp only [World.size_alloc]; omega
  have hn0 : Box w4 kk 66 (.pointer (some ⟨g, 0, none⟩)) := by rw [hw4, ← hkk']; exact (Box.new w3 _ _).fr0 ((((fr_alloc _ _ _).alloc _).alloc _).drew)
  have hn1 : Box w4 (kk + 1) 3 (.int .i64 (u : Int)) := by
    have := Box.new (w3.alloc (.cells #[.pointer (some ⟨g, 0, none⟩)] 66)) 3 (.int .i64 (u : Int))
    rw [World.size_alloc] at this
    rw [hw4, ← hkk']; exact this.fr0 (((fr_alloc _ _ _).alloc _).drew)
  have hn2 : Box w4 (kk + 2) 44 (.pointer (some ⟨wg, 0, none⟩)) := by
    have := Box.new ((w3.alloc (.cells #[.pointer (some ⟨g, 0, none⟩)] 66)).alloc (.cells #[.int .i64 (u : Int)] 3)) 44 (.pointer (some ⟨wg, 0, none⟩))
    rw [World.size_alloc, World.size_alloc] at this
    rw [hw4, ← hkk']; exact this.fr0 ((fr_alloc _ _ _).drew)
  have hn3 : Box w4 (kk + 3) 3 (.int .i64 c) := by
    have := Box.new (((w3.alloc (.cells #[.pointer (some ⟨g, 0, none⟩)] 66)).alloc (.cells #[.int .i64 (u : Int)] 3)).alloc (.cells #[.pointer (some ⟨wg, 0, none⟩)] 44)) 3 (.int .i64 c)
    rw [World.size_alloc, World.size_alloc, World.size_alloc] at this
    rw [hw4, ← hkk']; exact this.fr0 (fr_drew _ _)
  clear hw4
  have hI0 : NxtI W q u true m far kk g n J ab A cc c wg wa pw kk [] true [] [] w4 := by
    obtain ⟨v0, o1, o2⟩ := hO3
    exact ⟨v0, ⟨o1.1.fr0 hg4, own_fr0 o1.2 hg4⟩, hT3.trans0 hg4, hi1.fr0 hg4, hg4.heap hi2 (fun x => x), hi3.fr0 hg4, hi5.fr0 hg4, ⟨hn0, hn1, hn2, hn3, hgr.fr0 (hT3.trans0 hg4), hWb.fr0 (hT3.trans0 hg4)⟩, (hkk' ▸ hK3).fr hg4, o2, (by omega)⟩
  have HI0 := Lib.hid hI0
  rw [hkk'] at hkk
  clear hn0 hn1 hn2 hn3 hI0 e0 s0 t1 c0 c1 c2 hi1 hi2 hi3 hi5 hT3 hO3 hK3 hg4 hkk' HIN
  clear w3
  refine range_lawF (gf := 81) (lb := #[.pointer (some ⟨kk, 0, none⟩), .pointer (some ⟨kk + 1, 0, none⟩), .pointer (some ⟨kk + 3, 0, none⟩), .pointer (some ⟨kk + 2, 0, none⟩)]) rfl (enters_of Tryd.func81 (by kernel_rfl) rfl)
    (Next1_is kk g n J ab A cc u c wg wa n pw hu) (fun _ => rfl)
    (NxtI W q u true m far kk g n J ab A cc c wg wa pw kk [] true [])
    (fun _ _ _ => False) (NxtO (W.heap.size + 3)) (fun pre W' h => by obtain ⟨_, _, _, _, _, _, _, h, _⟩ := h; exact h) (fun pre W1 W2 h hG => h.grow hG (by omega) (by omega)) (fun _ _ _ _ hf _ => hf) HI0.out ?low ?olow ?round ?done ?stop
  case stop => intro D c pre W hD _ hf; exact hf.elim
  case low =>
    intro j W' _ hG hj
    exact HI0.out.lt (HI0.out.olow hG hj)
  case olow =>
    intro pre W1 W2 j h hG hj
    exact h.olow hG hj
  case round =>
    intro y pre x Wx hy hI hpre
    gi_wp2
    refine ⟨trivial, fun W2 hG => ?_⟩
    replace hI := hI.grow hG (by omega) (by omega)
    clear hG
    have HI := Lib.hid hI
    obtain ⟨v0, q1, q3, q7, q8, q9, q10, q11, q12, q13, q14⟩ := hI
    have q10c := q10.cell
    have hpl : pre.length ≤ J.length := by have h1 := nextL_len J u c pw; have h2 := hpre.length_le; rw [List.length_append] at h2; omega
    have hkl := keepsL_len far m true pre []
    have HKL2 := hpl
    have HP := Lib.hid (Keep_is (H.out.fr0 q3) q7 q9 q1 (by simp only [List.length_nil] at hkl HKL2; omega) (by omega) (x := x) (nextL_wf hpw (by omega) (hpre.subset (by simp))) true)
    have HQ := Lib.hid q1.1
    clear q1 q3 q8 q11 q12 q13 hkl
    gi_wp2_with (gi_at_call 65; refine (CallsIn.inRound y (callsIn_wide.2 HP.out)).mono ?_; rintro e w' ⟨_, rfl, hz⟩)
    obtain ⟨z1, z2, z3⟩ := HI.out.put HQ.out hgr hWb hz
    exact ⟨⟨(Fr.ND (by obtain ⟨_, _, _, hz2, _⟩ := hz; exact hz2) _), z1⟩, z2⟩
  case done =>
    intro D Wd hD hI hk2
    obtain ⟨v0, q1, q3, q7, q8, q9, q10, q11, q12, q13, q14⟩ := hI
    have q1c := q1.1.cell
    gi_wp2_with fail
    refine leave1 rfl hk2 fun W' hG => ⟨_, rfl, Fr.andGrow q3 hG (by omega), own_grow q1.2 hG⟩
set_option maxHeartbeats 8000000 in
theorem NextS_no {W : World} {q wg wa n u g : Nat} {r pt : Option Addr} {J : List ArcI} {pw : Nat → Bool} {a b c m : Int} {far : Nat → Bool → Option Nat} (h : FinAsk W q r wg wa n pw a b c far)
    (hR : IsR W r (some ⟨g, 0, none⟩) pt) (hG : GP W (some ⟨g, 0, none⟩) n J) (hJ : J.length ≤ 100000) (hpw : ∀ u, pw u = true → u < n) (hn : n ≤ 1000) (hu : u < n) :
    Calls Tryd.prog 45 #[.pointer (some ⟨q, 0, none⟩), .agg #[.int .i64 (u : Int), .bool false], .int .i64 m] W
      (Rets (SptsPost W (keepsL far m true (keepsL far m false [] (nextL J u a pw)) (nextL J u b pw)))) := by
  obtain ⟨w5, hw5⟩ : ∃ w5, ((((W.alloc (.cells #[.pointer (some ⟨q, 0, none⟩)] 58)).alloc (.cells #[.int .i64 (u : Int), .bool false] 63)).alloc (.cells #[.int .i64 m] 3)).alloc (.cells #[.slice none 0 0] 72)).alloc (.cells #[keepF W.heap.size (W.heap.size + 2) (W.heap.size + 3)] 89) = w5 := ⟨_, rfl⟩
  have hi1 : Box w5 W.heap.size 58 (.pointer (some ⟨q, 0, none⟩)) := hw5 ▸ (Box.new W _ _).fr0 ((((fr_alloc _ _ _).alloc _).alloc _).alloc _)
  have hi2 : w5.heap[W.heap.size + 1]? = some (.cells #[.int .i64 (u : Int), .bool false] 63 (0, 0)) := by
    have := World.alloc_heap_new (W.alloc (.cells #[.pointer (some ⟨q, 0, none⟩)] 58)) (.cells #[.int .i64 (u : Int), .bool false] 63)
    rw [World.size_alloc] at this
    exact hw5 ▸ (((fr_alloc (fun _ => False) _ _).alloc _).alloc _).heap this (fun x => x)
  have hi3 : Box w5 (W.heap.size + 2) 3 (.int .i64 m) := by
    have := Box.new ((W.alloc (.cells #[.pointer (some ⟨q, 0, none⟩)] 58)).alloc (.cells #[.int .i64 (u : Int), .bool false] 63)) 3 (.int .i64 m)
    rw [World.size_alloc, World.size_alloc] at this
    exact hw5 ▸ this.fr0 ((fr_alloc _ _ _).alloc _)
  have hi4 : Box w5 (W.heap.size + 3) 72 (.slice none 0 0) := by
    have := Box.new (((W.alloc (.cells #[.pointer (some ⟨q, 0, none⟩)] 58)).alloc (.cells #[.int .i64 (u : Int), .bool false] 63)).alloc (.cells #[.int .i64 m] 3)) 72 (.slice none 0 0)
    rw [World.size_alloc, World.size_alloc, World.size_alloc] at this
    exact hw5 ▸ this.fr0 (fr_alloc _ _ _)
  have hi5 : Box w5 (W.heap.size + 4) 89 (keepF W.heap.size (W.heap.size + 2) (W.heap.size + 3)) := by
    have := Box.new ((((W.alloc (.cells #[.pointer (some ⟨q, 0, none⟩)] 58)).alloc (.cells #[.int .i64 (u : Int), .bool false] 63)).alloc (.cells #[.int .i64 m] 3)).alloc (.cells #[.slice none 0 0] 72)) 89 (keepF W.heap.size (W.heap.size + 2) (W.heap.size + 3))
    rw [World.size_alloc, World.size_alloc, World.size_alloc, World.size_alloc] at this
    exact hw5 ▸ this
  have hT3 : Fr0 W w5 := hw5 ▸ ((((fr_alloc _ _ _).alloc _).alloc _).alloc _).alloc _
  have hs5 : w5.heap.size = W.heap.size + 5 := by rw [← hw5]; simp only [World.size_alloc]
  have s1 : w5.cell? ⟨W.heap.size + 1, 1, none⟩ = some (.bool false) := by unfold World.cell?; rw [hi2]; rfl
  have H := Lib.hid h
  have HG := Lib.hid hG
  have HR := Lib.hid hR
  have HS5 := Lib.hid hs5
  clear h hG hR
  refine (callsIn_wide (n := 0)).1 (callsIn_of_wp_marks Tryd.func45 rfl trivial ?_)
  simp only [Tryd.ntmps45, List.size_toArray, List.length_cons, List.length_nil, Nat.reduceAdd, Nat.reduceSub, Array.replicate_succ, Array.replicate_zero, List.push_toArray, List.append_toArray, List.nil_append, List.cons_append]
  clear hs5
  gi_wp2_with fail
  clear hw5
  obtain ⟨rg, ab, A, cc, erg, hgr⟩ : ∃ rg ab A cc, (some ⟨g, 0, none⟩ : Option Addr) = some ⟨rg, 0, none⟩ ∧ IsG W rg n J ab A cc := by
    rcases HG.out with ⟨e, _⟩ | h
    · cases e
    · exact h
  cases erg
  have hWb : IsBits W wg wa n pw := by obtain ⟨_, _, _, _, _, _, hw⟩ := H.out; exact hw
  have hs5 := HS5.out
  have hO3 : ∃ v, SptBox w5 W.heap.size (W.heap.size + 3) v (keepsL far m false [] []) ∧ (∀ k, v.ownBlock = some k → W.heap.size + 5 ≤ k) := ⟨_, ⟨hi4, own_nil _ _ _ _⟩, fun k hk => by cases hk⟩
  have hK3 : Marks W.heap.size w5.heap.size [] w5 := Marks.nil _ _ _
  have hkk : W.heap.size + 5 ≤ w5.heap.size := by omega
  clear s1 hi4 hs5 HS5
  obtain ⟨w3, rfl⟩ : ∃ w3, w3 = w5 := ⟨_, rfl⟩
  obtain ⟨mb, ring, top, mm, hb, hmu, hwu⟩ := H.out.fr0 hT3
  have e0 := (hi1.fr0 (fr_drew (fun _ => False) _)).cell
  have s0 : w3.drew.cell? ⟨W.heap.size + 1, 0, none⟩ = some (.int .i64 (u : Int)) := by unfold World.cell?; rw [(fr_drew (fun _ => False) _).heap hi2 (fun x => x)]; rfl
  have t1 : w3.cell? ⟨W.heap.size + 1, 1, none⟩ = some (.bool false) := by unfold World.cell?; rw [hi2]; rfl
  have c0 := (hb.fr0 (fr_drew (fun _ => False) _)).c0
  have c1 := (hb.fr0 (fr_drew (fun _ => False) _)).c1
  have c2 := (hb.fr0 (fr_drew (fun _ => False) _)).c2
  have HIN := Lib.hid (OutN_is (HR.out.fr0 hT3.drew) (some ⟨wg, 0, none⟩) (u : Int) a)
  clear hb hmu hwu
  gi_wp2_with fail
  refine wpIn_wide.2 ?_
  refine wp_region_still_tail 15 (by kernel_rfl) (by kernel_rfl) ?_
  simp only [List.take_succ_cons, List.take_zero, List.drop_succ_cons, List.drop_zero]
  change wpStill _ _ (World.drew _) _ _ _
  repeat still_step
  refine wpStill_nil ?_
  change wpList _ _ _ _ _ (World.drew _)
  go_wp2_with (go_at_call 66; refine (HIN.out).mono ?_; rintro e w4 ⟨rfl, rfl⟩)
  gi_wp2_with fail
  obtain ⟨w4, hw4⟩ : ∃ w4, w4 = ((((w3.alloc (.cells #[.pointer (some ⟨g, 0, none⟩)] 66)).alloc (.cells #[.int .i64 (u : Int)] 3)).alloc (.cells #[.pointer (some ⟨wg, 0, none⟩)] 44)).alloc (.cells #[.int .i64 a] 3)).drew := ⟨_, rfl⟩
  rw [← hw4]
  obtain ⟨kk, hkk'⟩ : ∃ kk, w3.heap.size = kk := ⟨_, rfl⟩
  simp only [hkk']
  have hg4 : Fr0 w3 w4 := by rw [hw4]; exact ((((fr_alloc _ _ _).alloc _).alloc _).alloc _).drew
  have hs4 : w4.heap.size = kk + 4 := by rw [hw4]; show (World.alloc _ _).heap.size = _; simp only [World.size_alloc]; omega
  have hn0 : Box w4 kk 66 (.pointer (some ⟨g, 0, none⟩)) := by rw [hw4, ← hkk']; exact (Box.new w3 _ _).fr0 ((((fr_alloc _ _ _).alloc _).alloc _).drew)
  have hn1 : Box w4 (kk + 1) 3 (.int .i64 (u : Int)) := by
    have := Box.new (w3.alloc (.cells #[.pointer (some ⟨g, 0, none⟩)] 66)) 3 (.int .i64 (u : Int))
    rw [World.size_alloc] at this
    rw [hw4, ← hkk']; exact this.fr0 (((fr_alloc _ _ _).alloc _).drew)
  have hn2 : Box w4 (kk + 2) 44 (.pointer (some ⟨wg, 0, none⟩)) := by
    have := Box.new ((w3.alloc (.cells #[.pointer (some ⟨g, 0, none⟩)] 66)).alloc (.cells #[.int .i64 (u : Int)] 3)) 44 (.pointer (some ⟨wg, 0, none⟩))
    rw [World.size_alloc, World.size_alloc] at this
    rw [hw4, ← hkk']; exact this.fr0 ((fr_alloc _ _ _).drew)
  have hn3 : Box w4 (kk + 3) 3 (.int .i64 a) := by
    have := Box.new (((w3.alloc (.cells #[.pointer (some ⟨g, 0, none⟩)] 66)).alloc (.cells #[.int .i64 (u : Int)] 3)).alloc (.cells #[.pointer (some ⟨wg, 0, none⟩)] 44)) 3 (.int .i64 a)
    rw [World.size_alloc, World.size_alloc, World.size_alloc] at this
    rw [hw4, ← hkk']; exact this.fr0 (fr_drew _ _)
  clear hw4
  have hI0 : NxtI W q u false m far kk g n J ab A cc a wg wa pw kk [] false [] [] w4 := by
    obtain ⟨v0, o1, o2⟩ := hO3
    exact ⟨v0, ⟨o1.1.fr0 hg4, own_fr0 o1.2 hg4⟩, hT3.trans0 hg4, hi1.fr0 hg4, hg4.heap hi2 (fun x => x), hi3.fr0 hg4, hi5.fr0 hg4, ⟨hn0, hn1, hn2, hn3, hgr.fr0 (hT3.trans0 hg4), hWb.fr0 (hT3.trans0 hg4)⟩, (hkk' ▸ hK3).fr hg4, o2, (by omega)⟩
  have HI0 := Lib.hid hI0
  rw [hkk'] at hkk
  clear hn0 hn1 hn2 hn3 hI0 e0 s0 t1 c0 c1 c2 hi1 hi2 hi3 hi5 hT3 hO3 hK3 hg4 hkk' HIN
  clear w3
  refine range_lawF (gf := 81) (lb := #[.pointer (some ⟨kk, 0, none⟩), .pointer (some ⟨kk + 1, 0, none⟩), .pointer (some ⟨kk + 3, 0, none⟩), .pointer (some ⟨kk + 2, 0, none⟩)]) rfl (enters_of Tryd.func81 (by kernel_rfl) rfl)
    (Next1_is kk g n J ab A cc u a wg wa n pw hu) (fun _ => rfl)
    (NxtI W q u false m far kk g n J ab A cc a wg wa pw kk [] false [])
    (fun _ _ _ => False) (NxtO (W.heap.size + 3)) (fun pre W' h => by obtain ⟨_, _, _, _, _, _, _, h, _⟩ := h; exact h) (fun pre W1 W2 h hG => h.grow hG (by omega) (by omega)) (fun _ _ _ _ hf _ => hf) HI0.out ?low ?olow ?round ?done ?stop
  case stop => intro D c pre W hD _ hf; exact hf.elim
  case low =>
    intro j W' _ hG hj
    exact HI0.out.lt (HI0.out.olow hG hj)
  case olow =>
    intro pre W1 W2 j h hG hj
    exact h.olow hG hj
  case round =>
    intro y pre x Wx hy hI hpre
    gi_wp2
    refine ⟨trivial, fun W2 hG => ?_⟩
    replace hI := hI.grow hG (by omega) (by omega)
    clear hG
    have HI := Lib.hid hI
    obtain ⟨v0, q1, q3, q7, q8, q9, q10, q11, q12, q13, q14⟩ := hI
    have q10c := q10.cell
    have hpl : pre.length ≤ J.length := by have h1 := nextL_len J u a pw; have h2 := hpre.length_le; rw [List.length_append] at h2; omega
    have hkl := keepsL_len far m false pre []
    have HKL2 := hpl
    have HP := Lib.hid (Keep_is (H.out.fr0 q3) q7 q9 q1 (by simp only [List.length_nil] at hkl HKL2; omega) (by omega) (x := x) (nextL_wf hpw (by omega) (hpre.subset (by simp))) false)
    have HQ := Lib.hid q1.1
    clear q1 q3 q8 q11 q12 q13 hkl
    gi_wp2_with (gi_at_call 65; refine (CallsIn.inRound y (callsIn_wide.2 HP.out)).mono ?_; rintro e w' ⟨_, rfl, hz⟩)
    obtain ⟨z1, z2, z3⟩ := HI.out.put HQ.out hgr hWb hz
    exact ⟨⟨(Fr.ND (by obtain ⟨_, _, _, hz2, _⟩ := hz; exact hz2) _), z1⟩, z2⟩
  case done =>
    intro D w3 hD hI hk2
    obtain ⟨v0, o1, hT3, hi1, hi2, hi3, hi5, _, hK3', o2, hkk3⟩ := hI
    have hO3 : ∃ v, SptBox w3 W.heap.size (W.heap.size + 3) v (keepsL far m true (keepsL far m false [] (nextL J u a pw)) []) ∧ (∀ k, v.ownBlock = some k → W.heap.size + 5 ≤ k) := ⟨v0, o1, o2⟩
    clear o1 o2 HI0
    clear v0
    have hDw := heap_lt hk2
    have hK3 : Marks W.heap.size w3.heap.size [D] w3 := (hK3'.cons (by omega) (by omega) hk2).mono (by omega)
    replace hkk : W.heap.size + 5 ≤ w3.heap.size := by omega
    have hD' := hD
    clear hK3' hk2 hkk3
    obtain ⟨mb, ring, top, mm, hb, hmu, hwu⟩ := H.out.fr0 hT3
    have e0 := (hi1.fr0 (fr_drew (fun _ => False) _)).cell
    have s0 : w3.drew.cell? ⟨W.heap.size + 1, 0, none⟩ = some (.int .i64 (u : Int)) := by unfold World.cell?; rw [(fr_drew (fun _ => False) _).heap hi2 (fun x => x)]; rfl
    have t1 : w3.cell? ⟨W.heap.size + 1, 1, none⟩ = some (.bool false) := by unfold World.cell?; rw [hi2]; rfl
    have c0 := (hb.fr0 (fr_drew (fun _ => False) _)).c0
    have c1 := (hb.fr0 (fr_drew (fun _ => False) _)).c1
    have c2 := (hb.fr0 (fr_drew (fun _ => False) _)).c3
    have HIN := Lib.hid (OutN_is (HR.out.fr0 hT3.drew) (some ⟨wg, 0, none⟩) (u : Int) b)
    clear hb hmu hwu
    gi_wp2_with fail
    refine wpIn_wide.2 ?_
    refine wp_region_still_tail 15 (by kernel_rfl) (by kernel_rfl) ?_
    simp only [List.take_succ_cons, List.take_zero, List.drop_succ_cons, List.drop_zero]
    change wpStill _ _ (World.drew _) _ _ _
    repeat still_step
    refine wpStill_nil ?_
    change wpList _ _ _ _ _ (World.drew _)
    go_wp2_with (go_at_call 66; refine (HIN.out).mono ?_; rintro e w4 ⟨rfl, rfl⟩)
    gi_wp2_with fail
    obtain ⟨w4, hw4⟩ : ∃ w4, w4 = ((((w3.alloc (.cells #[.pointer (some ⟨g, 0, none⟩)] 66)).alloc (.cells #[.int .i64 (u : Int)] 3)).alloc (.cells #[.pointer (some ⟨wg, 0, none⟩)] 44)).alloc (.cells #[.int .i64 b] 3)).drew := ⟨_, rfl⟩
    rw [← hw4]
    obtain ⟨kk, hkk'⟩ : ∃ kk, w3.heap.size = kk := ⟨_, rfl⟩
    simp only [hkk']
    have hg4 : Fr0 w3 w4 := by rw [hw4]; exact ((((fr_alloc _ _ _).alloc _).alloc _).alloc _).drew
    have hs4 : w4.heap.size = kk + 4 := by rw [hw4]; show (World.alloc _ _).heap.size = _; simp only [World.size_alloc]; omega
    have hn0 : Box w4 kk 66 (.pointer (some ⟨g, 0, none⟩)) := by rw [hw4, ← hkk']; exact (Box.new w3 _ _).fr0 ((((fr_alloc _ _ _).alloc _).alloc _).drew)
    have hn1 : Box w4 (kk + 1) 3 (.int .i64 (u : Int)) := by
      have := Box.new (w3.alloc (.cells #[.pointer (some ⟨g, 0, none⟩)] 66)) 3 (.int .i64 (u : Int))
      rw [World.size_alloc] at this
      rw [hw4, ← hkk']; exact this.fr0 (((fr_alloc _ _ _).alloc _).drew)
    have hn2 : Box w4 (kk + 2) 44 (.pointer (some ⟨wg, 0, none⟩)) := by
      have := Box.new ((w3.alloc (.cells #[.pointer (some ⟨g, 0, none⟩)] 66)).alloc (.cells #[.int .i64 (u : Int)] 3)) 44 (.pointer (some ⟨wg, 0, none⟩))
      rw [World.size_alloc, World.size_alloc] at this
      rw [hw4, ← hkk']; exact this.fr0 ((fr_alloc _ _ _).drew)
    have hn3 : Box w4 (kk + 3) 3 (.int .i64 b) := by
      have := Box.new (((w3.alloc (.cells #[.pointer (some ⟨g, 0, none⟩)] 66)).alloc (.cells #[.int .i64 (u : Int)] 3)).alloc (.cells #[.pointer (some ⟨wg, 0, none⟩)] 44)) 3 (.int .i64 b)
      rw [World.size_alloc, World.size_alloc, World.size_alloc] at this
      rw [hw4, ← hkk']; exact this.fr0 (fr_drew _ _)
    clear hw4
    have hI0 : NxtI W q u false m far kk g n J ab A cc b wg wa pw kk [D] true (keepsL far m false [] (nextL J u a pw)) [] w4 := by
      obtain ⟨v0, o1, o2⟩ := hO3
      exact ⟨v0, ⟨o1.1.fr0 hg4, own_fr0 o1.2 hg4⟩, hT3.trans0 hg4, hi1.fr0 hg4, hg4.heap hi2 (fun x => x), hi3.fr0 hg4, hi5.fr0 hg4, ⟨hn0, hn1, hn2, hn3, hgr.fr0 (hT3.trans0 hg4), hWb.fr0 (hT3.trans0 hg4)⟩, (hkk' ▸ hK3).fr hg4, o2, (by omega)⟩
    have HI0 := Lib.hid hI0
    rw [hkk'] at hkk
    clear hn0 hn1 hn2 hn3 hI0 e0 s0 t1 c0 c1 c2 hi1 hi2 hi3 hi5 hT3 hO3 hK3 hg4 hkk' HIN
    refine range_lawF (gf := 81) (lb := #[.pointer (some ⟨kk, 0, none⟩), .pointer (some ⟨kk + 1, 0, none⟩), .pointer (some ⟨kk + 3, 0, none⟩), .pointer (some ⟨kk + 2, 0, none⟩)]) rfl (enters_of Tryd.func81 (by kernel_rfl) rfl)
      (Next1_is kk g n J ab A cc u b wg wa n pw hu) (fun _ => rfl)
      (NxtI W q u false m far kk g n J ab A cc b wg wa pw kk [D] true (keepsL far m false [] (nextL J u a pw)))
      (fun _ _ _ => False) (NxtO (W.heap.size + 3)) (fun pre W' h => by obtain ⟨_, _, _, _, _, _, _, h, _⟩ := h; exact h) (fun pre W1 W2 h hG => h.grow hG (by omega) (by omega)) (fun _ _ _ _ hf _ => hf) HI0.out ?low ?olow ?round ?done ?stop
    case stop => intro D c pre W hD _ hf; exact hf.elim
    case low =>
      intro j W' _ hG hj
      exact HI0.out.lt (HI0.out.olow hG hj)
    case olow =>
      intro pre W1 W2 j h hG hj
      exact h.olow hG hj
    case round =>
      intro y pre x Wx hy hI hpre
      gi_wp2
      refine ⟨trivial, fun W2 hG => ?_⟩
      replace hI := hI.grow hG (by omega) (by omega)
      clear hG
      have HI := Lib.hid hI
      obtain ⟨v0, q1, q3, q7, q8, q9, q10, q11, q12, q13, q14⟩ := hI
      have q10c := q10.cell
      have hpl : pre.length ≤ J.length := by have h1 := nextL_len J u b pw; have h2 := hpre.length_le; rw [List.length_append] at h2; omega
      have hkl := keepsL_len far m true pre (keepsL far m false [] (nextL J u a pw))
      have HKL2 := keepsL_len far m false (nextL J u a pw) []
      have := nextL_len J u a pw
      have HP := Lib.hid (Keep_is (H.out.fr0 q3) q7 q9 q1 (by simp only [List.length_nil] at hkl HKL2; omega) (by omega) (x := x) (nextL_wf hpw (by omega) (hpre.subset (by simp))) true)
      have HQ := Lib.hid q1.1
      clear q1 q3 q8 q11 q12 q13 hkl
      gi_wp2_with (gi_at_call 65; refine (CallsIn.inRound y (callsIn_wide.2 HP.out)).mono ?_; rintro e w' ⟨_, rfl, hz⟩)
      obtain ⟨z1, z2, z3⟩ := HI.out.put HQ.out hgr hWb hz
      exact ⟨⟨(Fr.ND (by obtain ⟨_, _, _, hz2, _⟩ := hz; exact hz2) _), z1⟩, z2⟩
    case done =>
      intro E Wd hE hI hk2
      have hEw := heap_lt hk2
      obtain ⟨v0, q1, q3, q7, q8, q9, q10, q11, q12, q13, q14⟩ := hI
      have q1c := q1.1.cell
      gi_wp2_with fail
      refine leave1N (lo := W.heap.size) (hi := E + 1) (Ds := [E, D]) rfl (q12.cons (by omega) (by omega) hk2) fun W' hG => ⟨_, rfl, Fr.andGrow q3 hG (Nat.le_refl _), own_grow q1.2 hG⟩
end Go.Proofs.YtdcjfpjpboafnaaDoor
