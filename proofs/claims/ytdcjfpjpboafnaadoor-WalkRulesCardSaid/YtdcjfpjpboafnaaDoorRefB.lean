/- RefB, RefC, in one text. -/
import Derived.Test.YtdcjfpjpboafnaaDoorRefA
import Derived.Test.YtdcjfpjpboafnaaDoorBits
import Derived.Test.YtdcjfpjpboafnaaDoorCmp
import Derived.Test.YtdcjfpjpboafnaaDoorNewG
namespace Go.Proofs.YtdcjfpjpboafnaaDoor
set_option linter.all false
open Go.RowKit
set_option maxRecDepth 100000

/-- The document's graph of n vertices, its rows at R: Mx holds the masks. -/
def RefG (W : World) (n : Nat) (R : Option Addr) (Mx : Nat → Nat → Int) : Prop :=
  n ≤ 1024 ∧ ∀ i, i < n → ∃ b o rb ro cc, R = some ⟨b, o, none⟩ ∧ W.cell? ⟨b, o + i, none⟩ = some (.slice (some ⟨rb, ro, none⟩) n cc) ∧ ∀ j, j < n → W.cell? ⟨rb, ro + j, none⟩ = some (.int .i64 (Mx i j))
def refV (n : Nat) (R : Option Addr) (c : Nat) : Value := .agg #[.int .i64 (n : Int), .slice R n c]
theorem RefG.fr0 {W W' : World} {n : Nat} {R : Option Addr} {Mx : Nat → Nat → Int} (h : RefG W n R Mx) (f : Fr0 W W') : RefG W' n R Mx := by
  refine ⟨h.1, fun i hi => ?_⟩
  obtain ⟨b, o, rb, ro, cc, e, h1, h2⟩ := h.2 i hi
  exact ⟨b, o, rb, ro, cc, e, f.cell h1 (fun x => x), fun j hj => f.cell (h2 j hj) (fun x => x)⟩
/-- The mask of an arc, of any numbers. -/
def maskR (n : Nat) (Mx : Nat → Nat → Int) (a b : Int) : Int := if 0 ≤ a ∧ a < n ∧ 0 ≤ b ∧ b < n then Mx a.toNat b.toNat else 0
def IntPost (r : Int) (W : World) (v : Value) (w' : World) : Prop := v = .int .i64 r ∧ Fr0 W w'
theorem MaskR_is {W : World} {n c : Nat} {R : Option Addr} {Mx : Nat → Nat → Int} (h : RefG W n R Mx) (a b : Int) :
    Calls Tryd.prog 21 #[.agg #[.int .i64 (n : Int), .slice R n c], .int .i64 a, .int .i64 b] W (Rets (IntPost (maskR n Mx a b) W)) := by
  have hn := h.1
  by_cases ha : 0 ≤ a
  · by_cases ha2 : a < n
    · by_cases hb : 0 ≤ b
      · by_cases hb2 : b < n
        · obtain ⟨i, rfl⟩ : ∃ i : Nat, a = (i : Int) := ⟨a.toNat, by omega⟩
          obtain ⟨j, rfl⟩ : ∃ j : Nat, b = (j : Int) := ⟨b.toNat, by omega⟩
          have e : maskR n Mx i j = Mx i j := by rw [maskR, if_pos ⟨ha, ha2, hb, hb2⟩]; rfl
          rw [e]
          obtain ⟨q, o, rb, ro, cc, rfl, h1, h2⟩ := (h.fr0 (fr_alloc _ W (.cells #[.int .i64 (n : Int), .slice R n c] 37))).2 i (by omega)
          have h3 := h2 j (by omega)
          have g1 : (i : Int) < (n : Int) := ha2
          have g2 : (j : Int) < (n : Int) := hb2
          clear h h2 ha ha2 hb hb2 e
          go_enter Tryd.func21, Tryd.ntmps21
          go_wp2_with fail
          go_ret
          exact ⟨_, rfl, rfl, fr_alloc _ _ _⟩
        · have e : maskR n Mx a b = 0 := by rw [maskR, if_neg (by omega)]
          rw [e]
          clear e
          go_enter Tryd.func21, Tryd.ntmps21
          go_wp2_with fail
          go_ret
          exact ⟨_, rfl, rfl, fr_alloc _ _ _⟩
      · have e : maskR n Mx a b = 0 := by rw [maskR, if_neg (by omega)]
        rw [e]
        clear e
        go_enter Tryd.func21, Tryd.ntmps21
        go_wp2_with fail
        go_ret
        exact ⟨_, rfl, rfl, fr_alloc _ _ _⟩
    · have e : maskR n Mx a b = 0 := by rw [maskR, if_neg (by omega)]
      rw [e]
      clear e
      go_enter Tryd.func21, Tryd.ntmps21
      go_wp2_with fail
      go_ret
      exact ⟨_, rfl, rfl, fr_alloc _ _ _⟩
  · have e : maskR n Mx a b = 0 := by rw [maskR, if_neg (by omega)]
    rw [e]
    clear e
    go_enter Tryd.func21, Tryd.ntmps21
    go_wp2_with fail
    go_ret
    exact ⟨_, rfl, rfl, fr_alloc _ _ _⟩
theorem range_succ_filterB (p : Nat → Bool) (k : Nat) : (List.range (k + 1)).filter p = (List.range k).filter p ++ (if p k = true then [k] else []) := by
  rw [List.range_succ, List.filter_append, List.filter_cons, List.filter_nil]
theorem ints_snocB (l : List Nat) (x : Nat) : ints l ++ [.int .i64 (x : Int)] = ints (l ++ [x]) := by simp [ints]
/-- Where arcs of a mask lead, by the document. -/
def outR (n : Nat) (Mx : Nat → Nat → Int) (v m : Int) : Nat → Bool := fun w => bits .and .i64 (maskR n Mx v (w : Int)) m != 0
set_option maxHeartbeats 2000000 in
theorem OutR_is {W : World} {n c : Nat} {R : Option Addr} {Mx : Nat → Nat → Int} (h : RefG W n R Mx) (v m : Int) :
    Calls Tryd.prog 68 #[.agg #[.int .i64 (n : Int), .slice R n c], .int .i64 v, .int .i64 m] W (Rets (ListPost W (elems n (outR n Mx v m)))) := by
  obtain ⟨i0, hi, hz0, hz1, hz2⟩ := info_parts info_int
  have hn := h.1
  have HR := Lib.hid h
  have hxA := cell_two W W.heap.size rfl (.int .i64 (n : Int)) (.slice R n c) 37
  have x1 : (W.alloc (.cells #[.int .i64 (n : Int), .slice R n c] 37)).cell? ⟨W.heap.size, 0, none⟩ = some (.int .i64 (n : Int)) := hxA.1
  have x2 : (W.alloc (.cells #[.int .i64 (n : Int), .slice R n c] 37)).cell? ⟨W.heap.size, 1, none⟩ = some (.slice R n c) := hxA.2
  have X1 := Lib.hid x1
  have X2 := Lib.hid x2
  clear h hxA x1 x2
  go_enter Tryd.func68, Tryd.ntmps68
  go_wp2_with fail
  obtain ⟨w1, hw1⟩ : ∃ w1, W.alloc (.cells #[.int .i64 (n : Int), .slice R n c] 37) = w1 := ⟨_, rfl⟩
  have hf1 : Fr0 W w1 := hw1 ▸ fr_alloc _ _ _
  rw [hw1] at X1 X2 ⊢
  have hs1 := hf1.size
  go_loopw [7, 8] (fun v7 v8 wr => ∃ (k : Nat) (l : List Nat), k ≤ n ∧ v8 = .int .i64 k ∧ Hid (l = (List.range k).filter (outR n Mx v m)) ∧ l.length ≤ k ∧ Fr0 w1 wr ∧ wr.ownsRow w1.heap.size 3 1 v7 l.length (ints l)) (fun _ v8 _ => n - (intOf v8).toNat)
  case atStart => exact ⟨0, [], by omega, rfl, Lib.hid rfl, by simp, Fr.refl _ _, own_nil _ _ _ _⟩
  case round =>
    obtain ⟨k, l, hk, rfl, HL, hll, hf, ho⟩ := hrel
    have y1 := hf.cell X1.out (fun x => x)
    have y2 := hf.cell X2.out (fun x => x)
    have hsz := hf.size
    obtain ⟨A3, c3, e3⟩ := own_form ho
    subst e3
    by_cases hlt : k < n
    · have hlt' : (k : Int) < (n : Int) := by omega
      have HM := Lib.hid (MaskR_is (c := c) ((HR.out.fr0 hf1).fr0 hf) v k)
      have hrs := range_succ_filterB (outR n Mx v m) k
      rw [← HL.out] at hrs
      have ho' : outR n Mx v m k = (bits .and .i64 (maskR n Mx v (k : Int)) m != 0) := rfl
      rw [ho'] at hrs
      generalize maskR n Mx v (k : Int) = z at HM hrs
      by_cases hz : bits .and .i64 z m = 0
      · have hzb : (bits .and .i64 z m == 0) = true := by simpa using hz
        rw [hz] at hrs
        have HS := Lib.hid hrs
        clear hrs ho' hz
        go_wp2_with (go_at_call 21; refine (HM.out).mono ?_; rintro e w' ⟨_, rfl, rfl, hf3⟩)
        go_roundw
        case rel => exact ⟨k + 1, l, by omega, by go_num, Lib.hid (by rw [HS.out]; simp), by omega, hf.trans0 hf3, own_fr0 ho hf3⟩
        case measure => simp [intOf]; omega
      · have hzb : (bits .and .i64 z m == 0) = false := by simpa using hz
        have hbn : (bits .and .i64 z m != 0) = true := by simpa using hz
        rw [hbn] at hrs
        have HS := Lib.hid hrs
        clear hrs ho' hbn
        go_wp2_with (first | (go_at_call 21; refine (HM.out).mono ?_; rintro e w' ⟨_, rfl, rfl, hf3⟩; have hsz3 := hf3.size) | (at_builtin; refine wpList_append_own _ rfl _ _ 33 rfl w1.heap.size 3 i0 (.int .i64 0) 1 8 Tryd.underlying33 hi hz0 hz1 hz2 rfl (by decide) _ _ _ rfl (own_fr0 ho (Fr.trans0 hf3 (fr_alloc _ _ _))) _ 1 1 [.int .i64 (k : Int)] rfl rfl (cell_one_new _ _ _) (by simp [Value.oneCell']) (by unfold maxLen; omega) (by omega) (by simp; omega) ?_; intro v' w2 hown' hgrow _))
        go_roundw
        case rel =>
          rw [ints_snocB] at hown'
          refine ⟨k + 1, l ++ [k], by omega, by go_num, Lib.hid (by rw [HS.out]; simp), by simp; omega, ?_, by simpa using hown'⟩
          exact ((hf.trans0 hf3).alloc _).trans (append_fr0 (own_fr0 ho (Fr.trans0 hf3 (fr_alloc _ _ _))) hgrow) (fun j hj e => own_old ho hj e)
        case measure => simp [intOf]; omega
    · have hke : k = n := by omega
      go_wp2_with fail
      go_ret
      have e : elems n (outR n Mx v m) = l := by rw [HL.out, hke]; rfl
      rw [e]
      exact ⟨_, rfl, hf1.trans0 hf, ho.mono hs1⟩
end Go.Proofs.YtdcjfpjpboafnaaDoor
namespace Go.Proofs.YtdcjfpjpboafnaaDoor
set_option linter.all false
open Go.RowKit
set_option maxRecDepth 100000

/-- May a graph be, of at most so many vertices, and arcs? -/
def fewI (n : Int) (l : List ArcI) (most arcs : Int) : Bool := decide (0 ≤ n) && decide (n ≤ most) && decide ((l.length : Int) ≤ arcs) && !l.any (badI n)
theorem any_take_succ {l : List ArcI} {k : Nat} (h : k < l.length) (p : ArcI → Bool) : (l.take (k + 1)).any p = ((l.take k).any p || p (l.getD k default)) := by
  rw [take_snoc_a _ _ h, List.any_append]; simp
theorem any_get {l : List ArcI} {k : Nat} (h : k < l.length) {p : ArcI → Bool} (hp : p (l.getD k default) = true) : l.any p = true := by
  rw [List.any_eq_true]
  exact ⟨l.getD k default, by rw [List.getD_eq_getElem?_getD, List.getElem?_eq_getElem h]; exact List.getElem_mem _, hp⟩
set_option maxHeartbeats 2000000 in
theorem Few_is {W : World} {A : Option Addr} {c : Nat} {l : List ArcI} (hl : ArcsAt W A l) (n most arcs : Int) :
    Calls Tryd.prog 11 #[.int .i64 n, .slice A l.length c, .int .i64 most, .int .i64 arcs] W fun e w' => e = .returned (.bool (fewI n l most arcs)) ∧ W = w' := by
  have hlen := hl.1
  by_cases h0 : 0 ≤ n
  · by_cases h1 : n ≤ most
    · by_cases h2 : (l.length : Int) ≤ arcs
      · have e : fewI n l most arcs = !l.any (badI n) := by simp [fewI, h0, h1, h2]
        rw [e]
        have HA := Lib.hid hl
        clear hl e
        go_enter Tryd.func11, Tryd.ntmps11
        go_wp2_with fail
        go_loopw [9] (fun v wr => ∃ k : Nat, k ≤ l.length ∧ v = .int .i64 k ∧ Hid ((l.take k).any (badI n) = false) ∧ wr = W) (fun v _ => l.length - (intOf v).toNat)
        case atStart => exact ⟨0, by omega, rfl, Lib.hid (by simp), rfl⟩
        case round =>
          obtain ⟨k, hk, rfl, HN, rfl⟩ := hrel
          by_cases hlt : k < l.length
          · have hlt' : (k : Int) < (l.length : Int) := by omega
            rcases HA.out.2 with e | ⟨b, o, rfl, hc⟩
            · rw [e] at hlt; cases hlt
            obtain ⟨c1, c2, c3⟩ := hc k hlt
            have hst := any_take_succ hlt (badI n)
            have hget := fun h => any_get (p := badI n) hlt h
            generalize l.getD k default = a at c1 c2 c3 hst hget
            rw [HN.out, Bool.false_or] at hst
            have HS := Lib.hid hst
            have HG := Lib.hid hget
            clear hst hget hc
            by_cases q1 : a.f < 0
            · have hb : badI n a = true := by simp [badI, outI, q1]
              have hx := Lib.hid (HG.out hb)
              go_wp2_with fail
              go_ret
              exact ⟨by rw [hx.out]; rfl, rfl⟩
            · by_cases q2 : n ≤ a.f
              · have hb : badI n a = true := by simp [badI, outI, q2]
                have hx := Lib.hid (HG.out hb)
                go_wp2_with fail
                go_ret
                exact ⟨by rw [hx.out]; rfl, rfl⟩
              · by_cases q3 : a.t < 0
                · have hb : badI n a = true := by simp [badI, outI, q3]
                  have hx := Lib.hid (HG.out hb)
                  go_wp2_with fail
                  go_ret
                  exact ⟨by rw [hx.out]; rfl, rfl⟩
                · by_cases q4 : n ≤ a.t
                  · have hb : badI n a = true := by simp [badI, outI, q4]
                    have hx := Lib.hid (HG.out hb)
                    go_wp2_with fail
                    go_ret
                    exact ⟨by rw [hx.out]; rfl, rfl⟩
                  · have hb : badI n a = false := by simp [badI, outI, q1, q2, q3, q4]
                    have HB := Lib.hid hb
                    clear hb
                    go_wp2_with fail
                    go_roundw
                    case rel => exact ⟨k + 1, by omega, by go_num, Lib.hid (by rw [HS.out, HB.out]), by trivial⟩
                    case measure => simp [intOf]; omega
          · have hx : l.any (badI n) = false := by have := HN.out; rwa [List.take_of_length_le (by omega)] at this
            have HX := Lib.hid hx
            clear hx
            go_wp2_with fail
            go_ret
            exact ⟨by rw [HX.out]; rfl, rfl⟩
      · have e : fewI n l most arcs = false := by simp [fewI, h2]
        rw [e]
        clear e hl
        go_enter Tryd.func11, Tryd.ntmps11
        go_wp2_with fail
        go_ret
        exact ⟨rfl, rfl⟩
    · have e : fewI n l most arcs = false := by simp [fewI, h1]
      rw [e]
      clear e hl
      go_enter Tryd.func11, Tryd.ntmps11
      go_wp2_with fail
      go_ret
      exact ⟨rfl, rfl⟩
  · have e : fewI n l most arcs = false := by simp [fewI, h0]
    rw [e]
    clear e hl
    go_enter Tryd.func11, Tryd.ntmps11
    go_wp2_with fail
    go_ret
    exact ⟨rfl, rfl⟩
end Go.Proofs.YtdcjfpjpboafnaaDoor
