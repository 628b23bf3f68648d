/- The program's sets of whole numbers: what of one is so; what is in both, in the one alone. -/
import Derived.Test.YtekigojbkhjdbaaSetsB
namespace Go.Proofs.Ytekigojbkhjdbaa
set_option linter.all false
open Go.RowKit Go.Sort Go.Shelf
attribute [local go_sem] Oper.semAt_some
set_option maxRecDepth 100000

/-- Between two rounds of a loop that collects some: the row lies in the variable b. -/
def ColF (w : World) (b : Nat) (f : Int → Bool) (pre : List Int) (W : World) : Prop :=
  Fr (fun k => k = b) w W ∧ ∃ v, Box W b 41 v ∧ W.ownsRow w.heap.size 3 1 v (pre.filter f).length (intsI (pre.filter f))
theorem ColF.grow {w : World} {b B : Nat} {f : Int → Bool} {pre : List Int} {W W' : World} (h : ColF w b f pre W) (hG : Grow B W W') (hB : w.heap.size ≤ B) : ColF w b f pre W' := by
  obtain ⟨h1, v, h2, h3⟩ := h
  exact ⟨Fr.andGrow h1 hG hB, v, h2.grow hG, own_grow h3 hG⟩
theorem filter_snoc (f : Int → Bool) (pre : List Int) (x : Int) : (pre ++ [x]).filter f = pre.filter f ++ (if f x = true then [x] else []) := by
  rw [List.filter_append, List.filter_cons, List.filter_nil]
set_option maxHeartbeats 4000000 in
theorem only_is {W : World} {A : Option Addr} {c g : Nat} {zs : List Int} {first caps : Array Value} {p : Int → Bool} (h : SetAt W A c zs) (he : ∀ args w, (callFunc g args).run Try.prog w = .ok (.enter g args) w)
    (hp : ∀ W' x, Fr0 W W' → Calls Try.prog g (first ++ #[.int .i64 x] ++ caps) W' (Rets (SamePost (p x) W'))) :
    Calls Try.prog 77 #[setV A zs.length c, .func (.func g) first caps] W (Rets (SetPost W (zs.filter p))) := by
  have hsm := h.small
  obtain ⟨i0, hi, hz0, hz1, hz2⟩ := info_parts info_int
  have HP := Lib.hid hp
  clear hp
  obtain ⟨wA, hwA⟩ : ∃ wA, ((((W.alloc (.cells #[.slice A zs.length c] 76)).alloc (.cells #[.func (.func g) first caps] 79)).alloc (.cells #[.slice none 0 0] 76)).alloc (.cells #[.slice none 0 0] 41)).alloc (.cells #[.slice A zs.length c] 76) = wA := ⟨_, rfl⟩
  have hfA : Fr0 W wA := hwA ▸ ((((fr_alloc _ _ _).alloc _).alloc _).alloc _).alloc _
  have hsA : wA.heap.size = W.heap.size + 5 := by rw [← hwA]; simp
  have hb1 : Box wA (W.heap.size + 1) 79 (.func (.func g) first caps) := by
    have := Box.new (W.alloc (.cells #[.slice A zs.length c] 76)) 79 (.func (.func g) first caps)
    rw [World.size_alloc] at this
    exact hwA ▸ this.fr0 (((fr_alloc _ _ _).alloc _).alloc _)
  have hb2 : Box wA (W.heap.size + 2) 76 (.slice none 0 0) := by
    have := Box.new ((W.alloc (.cells #[.slice A zs.length c] 76)).alloc (.cells #[.func (.func g) first caps] 79)) 76 (.slice none 0 0)
    rw [World.size_alloc, World.size_alloc] at this
    exact hwA ▸ this.fr0 ((fr_alloc _ _ _).alloc _)
  have hb3 : Box wA (W.heap.size + 3) 41 (.slice none 0 0) := by
    have := Box.new (((W.alloc (.cells #[.slice A zs.length c] 76)).alloc (.cells #[.func (.func g) first caps] 79)).alloc (.cells #[.slice none 0 0] 76)) 41 (.slice none 0 0)
    rw [World.size_alloc, World.size_alloc, World.size_alloc] at this
    exact hwA ▸ this.fr0 (fr_alloc _ _ _)
  have hb4 : Box wA (W.heap.size + 4) 76 (.slice A zs.length c) := by
    have := Box.new ((((W.alloc (.cells #[.slice A zs.length c] 76)).alloc (.cells #[.func (.func g) first caps] 79)).alloc (.cells #[.slice none 0 0] 76)).alloc (.cells #[.slice none 0 0] 41)) 76 (.slice A zs.length c)
    rw [World.size_alloc, World.size_alloc, World.size_alloc, World.size_alloc] at this
    exact hwA ▸ this
  have hI := h.ints
  have hrise := Lib.hid h.rise
  refine (callsIn_wide (n := 0)).1 (callsIn_of_wp_marks Try.func77 rfl trivial ?_)
  simp only [Try.ntmps77, List.size_toArray, List.length_cons, List.length_nil, Nat.reduceAdd, Nat.reduceSub, Array.replicate_succ, Array.replicate_zero, List.push_toArray, List.append_toArray, List.nil_append, List.cons_append]
  have HWA := Lib.hid hwA
  clear hwA h
  gi_wp2_with (gi_at_call 48; refine (callsIn_wide.2 (SAll_is _ _ _ _)).mono ?_; rintro e w' ⟨rfl, rfl⟩)
  rw [HWA.out]
  refine range_law (gf := 81) (lb := #[.pointer (some ⟨W.heap.size + 4, 0, none⟩)]) rfl (enters_of Try.func81 (by kernel_rfl) rfl)
    ((SAll1_is (W.heap.size + 4) A c zs hsm).mono (K' := fun W' => Fr (fun k => k = W.heap.size + 3) wA W') (fun W' f => ⟨hb4.fr f (by omega), hI.fr0 (hfA.trans f (fun j hj e => by omega))⟩)) (fun _ => rfl)
    (ColF wA (W.heap.size + 3) p)
    (fun _ _ _ => False) (fun pre W hI => hI.1) (fun pre W1 W2 h hG => h.grow hG (Nat.le_refl _)) (fun _ _ _ _ hf _ => hf) ⟨Fr.refl _ _, _, hb3, own_nil _ _ _ _⟩ ?round ?done ?stop
  case stop => intro D cc pre Wd hD _ hf; exact hf.elim
  case done =>
    intro D Wd hD hI2 hk
    obtain ⟨k1, v, k4, k5⟩ := hI2
    have k4c := k4.cell
    have k2 := hb2.fr k1 (by omega)
    have k2c := k2.cell
    have k2z := k2.frozen
    obtain ⟨A4, c4, rfl⟩ := own_form k5
    gi_wp2
    have hbS := k2.set (.slice A4 (zs.filter p).length c4)
    have hFS : Fr (fun k => k = W.heap.size + 2) Wd (Wd.setCell ⟨W.heap.size + 2, 0, none⟩ (.slice A4 (zs.filter p).length c4)) := fr_setCell _ _ _ (fun _ => rfl)
    have hFW : Fr0 W Wd := hfA.trans k1 (fun j hj e => by omega)
    have hFF : Fr0 W (Wd.setCell ⟨W.heap.size + 2, 0, none⟩ (.slice A4 (zs.filter p).length c4)) := hFW.trans hFS (fun j hj e => by omega)
    have hk3 : (Wd.setCell ⟨W.heap.size + 2, 0, none⟩ (.slice A4 (zs.filter p).length c4)).heap[D]? = some (.deferred (some [])) := heap_setCell_nd _ _ _ _ _ hk rfl
    have hoS := own_fr k5 hFS (fun b hb e => own_old k5 (by omega) (e ▸ hb))
    refine leaveC hk3 (fun W' hG => ⟨setV A4 (zs.filter p).length c4, ?_, _, rfl, A4, c4, rfl, Fr.andGrow hFF hG (by omega), own_set (own_grow hoS hG) (hrise.out.filter _) (Nat.le_trans (List.length_filter_le _ _) hsm), fun a e => Nat.le_trans (by omega) (own_at k5 a e)⟩)
    have hcS := (hbS.grow hG).cell
    simp only [results, show Try.f77.results = #[ResultVar.cell 4 76] from rfl]
    go_simp
  case round =>
    intro l pre x Wx hl hIx hpre
    have hpl : pre.length < zs.length := by have := hpre.length_le; simp at this; omega
    have hfl : (pre.filter p).length ≤ pre.length := List.length_filter_le _ _
    gi_wp2
    refine ⟨ND.refl _ _, fun W2 hG => ?_⟩
    obtain ⟨k1, v, k4, k5⟩ := hIx.grow hG (Nat.le_refl _)
    have hfx := filter_snoc p pre x
    have k3 := hb1.fr k1 (by omega)
    have k3c := k3.cell
    have hFW : Fr0 W W2 := hfA.trans k1 (fun j hj e => by omega)
    have HC := Lib.hid (HP.out W2 x hFW)
    clear hIx
    gi_wp2
    refine (CallsIn.inRound l (callsIn_wide.2 HC.out)).mono ?_
    rintro e w1 ⟨_, rfl, rfl, hf1⟩
    have k1' : Fr (fun k => k = W.heap.size + 3) wA w1 := k1.trans0 hf1
    have k4' := k4.fr0 hf1
    have k5' := own_fr0 k5 hf1
    have hs1 := k1'.size
    cases hpx : p x with
    | false =>
      rw [hpx] at hfx
      have HFX := Lib.hid hfx
      clear hpx hfx
      gi_wp2
      refine ⟨hf1.ND _, k1', v, k4', ?_⟩
      rw [HFX.out]
      simpa using k5'
    | true =>
      rw [hpx] at hfx
      have HFX := Lib.hid hfx
      have k4c := k4'.cell
      have k4z := k4'.frozen
      clear hpx hfx
      generalize pre.filter p = acc at k5' HFX hfl
      gi_wp2_with (gi_at_builtin; refine wpListIn_append_own _ rfl _ _ 41 rfl wA.heap.size 3 i0 (.int .i64 0) 1 8 Try.underlying41 hi hz0 hz1 hz2 rfl (by decide) _ _ _ rfl (k5'.alloc _) ⟨w1.heap.size, 0, none⟩ 1 1 [.int .i64 x] rfl rfl (cell_one_new _ _ _) (by simp [Value.oneCell']) (by unfold maxLen; omega) (by omega) (by simp; omega) ?_; intro v' w3 hown' hgrow _; obtain ⟨g', cap', rfl⟩ := ownsRow_succ hown'; obtain ⟨c1, c2, c3, c4⟩ := collect k4' (by decide) k5' hown' hgrow; have c1c := c1.cell; have c1f := c1.frozen)
      refine ⟨(hf1.ND _).trans (c4.ND _), k1'.trans c4 (fun j hj e => e.elim id (fun e => absurd e (own_old k5' (by omega)))), _, c2, ?_⟩
      rw [HFX.out]
      simpa [intsI] using c3
/-- A set whose own memory a change does not touch. -/
theorem Minus1_is {W : World} {k d : Nat} {B : Option Addr} {ts : List Int} (hb : Box W k 76 (.slice B ts.length d)) (h : SetAt W B d ts) (x : Int) :
    Calls Try.prog 78 #[.int .i64 x, .pointer (some ⟨k, 0, none⟩)] W (Rets (SamePost (!decide (x ∈ ts)) W)) := by
  have HS := Lib.hid (SHas_is h x)
  have hc := hb.cell
  clear h
  go_enter Try.func78, Try.ntmps78
  go_wp2_with (go_at_call 45; refine (HS.out).mono ?_; rintro e w1 ⟨_, rfl, rfl, hf1⟩)
  go_ret
  exact ⟨_, rfl, rfl, hf1⟩
set_option maxHeartbeats 1000000 in
theorem SMinus_is {W : World} {A B : Option Addr} {c d : Nat} {zs ts : List Int} (h1 : SetAt W A c zs) (h2 : SetAt W B d ts) :
    Calls Try.prog 46 #[setV A zs.length c, setV B ts.length d] W (Rets (SetPost W (zs.filter (fun x => !decide (x ∈ ts))))) := by
  have hmf : ∀ (fn : Fn) (first cap : Array Value) (w : World), (Instr.makeFunc fn first cap).run Try.prog w = .ok (.func fn first cap) w := fun _ _ _ _ => rfl
  obtain ⟨w0, hw0⟩ : ∃ w0, ((W.alloc (.cells #[.slice A zs.length c] 76)).alloc (.cells #[.slice B ts.length d] 76)).alloc (.cells #[.slice none 0 0] 76) = w0 := ⟨_, rfl⟩
  have hf0 : Fr0 W w0 := hw0 ▸ ((fr_alloc _ _ _).alloc _).alloc _
  have hs0 : w0.heap.size = W.heap.size + 3 := by rw [← hw0]; simp
  have hb1 : Box w0 (W.heap.size + 1) 76 (.slice B ts.length d) := by
    have := Box.new (W.alloc (.cells #[.slice A zs.length c] 76)) 76 (.slice B ts.length d)
    rw [World.size_alloc] at this
    exact hw0 ▸ this.fr0 (fr_alloc _ _ _)
  have hb2 : Box w0 (W.heap.size + 2) 76 (.slice none 0 0) := by
    have := Box.new ((W.alloc (.cells #[.slice A zs.length c] 76)).alloc (.cells #[.slice B ts.length d] 76)) 76 (.slice none 0 0)
    rw [World.size_alloc, World.size_alloc] at this
    exact hw0 ▸ this
  have HO := Lib.hid (only_is (g := 78) (first := #[]) (caps := #[.pointer (some ⟨W.heap.size + 1, 0, none⟩)]) (h1.fr0 hf0) (enters_of Try.func78 (by kernel_rfl) rfl) (fun W' x f => Minus1_is (hb1.fr0 f) ((h2.fr0 hf0).fr0 f) x))
  have HW := Lib.hid hw0
  have hl2 := h2.small
  clear h1 h2 hw0
  go_enter Try.func46, Try.ntmps46
  go_wp2_with (go_at_call 77; (try rw [HW.out]); refine (HO.out).mono ?_; rintro e w1 ⟨_, rfl, A1, c1, rfl, hf1, hS1, hN1⟩; have hb3 : Box w1 (W.heap.size + 1 + 1) 76 (.slice none 0 0) := hb2.fr0 hf1; have hc3 := hb3.cell; have hz3 := hb3.frozen)
  generalize hL : zs.filter (fun x => !decide (x ∈ ts)) = L at hS1 ⊢
  have hbS := hb3.set (.slice A1 L.length c1)
  have hcS := hbS.cell
  have hFS : Fr (fun k => k = W.heap.size + 1 + 1) w1 (w1.setCell ⟨W.heap.size + 1 + 1, 0, none⟩ (.slice A1 L.length c1)) := fr_setCell _ _ _ (fun _ => rfl)
  refine bodyPost_ret (v := setV A1 L.length c1) ?_ rfl ?_
  · simp only [results, show Try.f46.results = #[ResultVar.cell 4 76] from rfl]
    go_simp
  · exact ⟨_, rfl, A1, c1, rfl, (hf0.trans0 hf1).trans hFS (fun j hj e => by omega), hS1.fr hFS (fun a e h => by have := hN1 a e; omega), fun a e => by have := hN1 a e; omega⟩
end Go.Proofs.Ytekigojbkhjdbaa
