/- The document's first labels: its search, walked. -/
import Derived.Test.YtjijoghbcbdohaaCyFits
import Derived.Test.YtjijoghbcbdohaaCyBits
import Derived.Test.YtjijoghbcbdohaaAppRow
namespace Go.Proofs.Ytjijoghbcbdohaa
set_option linter.all false
open Go.RowKit
set_option maxRecDepth 100000

/-- What is told: labels, in a row, or that there are none. -/
def AfterPost (W : World) (r : Option (List Int)) (v : Value) (w' : World) : Prop := Fr0 W w' ∧ match r with
  | none => ∃ A n c, v = .tuple #[.slice A n c, .bool false]
  | some l => ∃ A c, v = .tuple #[.slice A l.length c, .bool true] ∧ IntsAt w' A l ∧ Plain A l.length c
/-- One branch of the search. -/
def brC (kind m : Int) (ms b : List Int) (x : Int) : Option (List Int) := if btM m x = true then afterC btM (fitsD kind) ms (b ++ [x]) else none
/-- What is left of the search from a label on. -/
def remC (kind m : Int) (ms b : List Int) (x : Int) : Option (List Int) :=
  if x = 1 then (((brC kind m ms b 1).or (brC kind m ms b 2)).or (brC kind m ms b 4)) else if x = 2 then ((brC kind m ms b 2).or (brC kind m ms b 4)) else if x = 4 then brC kind m ms b 4 else none
theorem rem_one (kind m : Int) (ms b : List Int) : afterC btM (fitsD kind) (m :: ms) b = remC kind m ms b 1 := rfl
theorem rem_no {kind m : Int} {ms b : List Int} {x : Int} (hx : x = 1 ∨ x = 2 ∨ x = 4) (h : brC kind m ms b x = none) : remC kind m ms b x = remC kind m ms b (2 * x) := by
  rcases hx with rfl | rfl | rfl
  · simp [remC, h]
  · simp [remC, h]
  · simp [remC, h]
theorem rem_yes {kind m : Int} {ms b l : List Int} {x : Int} (hx : x = 1 ∨ x = 2 ∨ x = 4) (h : brC kind m ms b x = some l) : remC kind m ms b x = some l := by
  rcases hx with rfl | rfl | rfl
  · simp [remC, h]
  · simp [remC, h]
  · simp [remC, h]
theorem drop_cons_I (xs : List Int) (k : Nat) (h : k < xs.length) : xs.drop k = xs.getD k 0 :: xs.drop (k + 1) := by
  rw [List.drop_eq_getElem_cons h, List.getD_eq_getElem?_getD, List.getElem?_eq_getElem h]; rfl
set_option maxHeartbeats 8000000 in
theorem After_is (kind : Int) (n : Nat) : ∀ {W : World} {A : Option Addr} {c : Nat} {xs : List Int} (h : IntsAt W A xs) (hsm : xs.length ≤ 1000) {B : Option Addr} {d : Nat} {bs : List Int} (hb : IntsAt W B bs) (hp : Plain B bs.length d) (hn : bs.length + n = xs.length),
    Calls Try.prog 37 #[.int .i64 kind, .slice A xs.length c, .slice B bs.length d] W (Rets (AfterPost W (afterC btM (fitsD kind) (xs.drop bs.length) bs))) := by
  obtain ⟨i0, hi, hz0, hz1, hz2⟩ := info_parts info_int
  induction n with
  | zero =>
    intro W A c xs h hsm B d bs hb hp hn
    have HF := Lib.hid (Fits26_is (c := d) hb (by omega) kind)
    have hlen : bs.length = xs.length := by omega
    have hR : afterC btM (fitsD kind) (xs.drop bs.length) bs = if fitsD kind bs = true then some bs else none := by rw [hlen, List.drop_length]; rfl
    rw [hR]
    have e1 : ((bs.length : Int) == (xs.length : Int)) = true := by simp; omega
    have HB := Lib.hid hb
    have HP := Lib.hid hp
    clear hR h hb hp hn
    cases hf : fitsD kind bs with
    | true =>
      rw [hf] at HF
      have HL := Lib.hid hlen
      clear hlen hf
      go_enter Try.func37, Try.ntmps37
      go_wp2_with (go_at_call 17; refine (HF.out).mono ?_; rintro e w1 ⟨rfl, rfl⟩)
      go_ret2
      exact ⟨_, rfl, Fr.refl _ _, B, d, rfl, HB.out, HP.out⟩
    | false =>
      rw [hf] at HF
      have HL := Lib.hid hlen
      clear hlen hf
      go_enter Try.func37, Try.ntmps37
      go_wp2_with (go_at_call 17; refine (HF.out).mono ?_; rintro e w1 ⟨rfl, rfl⟩)
      go_ret2
      exact ⟨_, rfl, Fr.refl _ _, B, bs.length, d, rfl⟩
  | succ n ih =>
    intro W A c xs h hsm B d bs hb hp hn
    have hlt : bs.length < xs.length := by omega
    rw [drop_cons_I xs _ hlt, rem_one]
    obtain ⟨bk, o, rfl, hc⟩ := h.at_ hlt
    have e1 : ((bs.length : Int) == (xs.length : Int)) = false := by rw [beq_eq_false_iff_ne]; omega
    have hlt' : (bs.length : Int) < (xs.length : Int) := by omega
    have HIH : ∀ x : Int, Hid (∀ (w : World) (B2 : Option Addr) (d2 : Nat) (M : List Int), M = bs ++ [x] → Fr0 W w → w.ownsRow W.heap.size 3 1 (.slice B2 (bs.length + 1) d2) (bs.length + 1) (intsI M) → Calls Try.prog 37 #[.int .i64 kind, .slice (some ⟨bk, o, none⟩) xs.length c, .slice B2 (bs.length + 1) d2] w (Rets (AfterPost w (afterC btM (fitsD kind) (xs.drop (bs.length + 1)) M)))) := fun x => Lib.hid (by
      intro w B2 d2 M hM f hM2
      have hl : M.length = bs.length + 1 := by rw [hM]; simp
      rw [← hl] at hM2
      have := ih (h.fr0 f) hsm (own_intsI hM2 (by omega)) (plain_own hM2) (by omega) (c := c)
      rw [hl] at this
      exact this)
    have HX := Lib.hid h
    have HB := Lib.hid hb
    have HP := Lib.hid hp
    have hbl : bs.length ≤ 1000 := by omega
    clear ih h hb hp
    generalize xs.getD bs.length 0 = m at hc ⊢
    generalize xs.drop (bs.length + 1) = ms at HIH ⊢
    go_enter Try.func37, Try.ntmps37
    go_wp2_with fail
    go_loopw [9, 10, 11] (fun v9 v10 v11 wr => ∃ x : Int, (x = 1 ∨ x = 2 ∨ x = 4 ∨ x = 8) ∧ v9 = .int .i64 x ∧ Hid (remC kind m ms bs 1 = remC kind m ms bs x) ∧ Fr0 W wr) (fun v9 _ _ _ => 8 - (intOf v9).toNat)
    case atStart => exact ⟨1, by omega, rfl, Lib.hid rfl, Fr.refl _ _⟩
    case round =>
      obtain ⟨x, hx, rfl, HR, hf⟩ := hrel
      by_cases h8 : x = 8
      · subst h8
        go_wp2_with fail
        go_ret2
        have : remC kind m ms bs 1 = none := HR.out.trans rfl
        rw [this]
        exact ⟨_, rfl, hf, _, _, _, rfl⟩
      · have hx3 : x = 1 ∨ x = 2 ∨ x = 4 := by omega
        have hx4 : x ≤ 4 := by omega
        have hx1 : 1 ≤ x := by omega
        have hcr := hf.cell hc (fun x => x)
        obtain ⟨u, hu⟩ : ∃ u, bits .and .i64 m x = u := ⟨_, rfl⟩
        by_cases hu0 : u = 0
        · have b0 : (u == 0) = true := by simp [hu0]
          have HR2 : Hid (remC kind m ms bs 1 = remC kind m ms bs (2 * x)) := Lib.hid (HR.out.trans (rem_no hx3 (by unfold brC btM; rw [hu, hu0]; rfl)))
          clear hu0 hx
          go_wp2_with fail
          go_roundw
          case rel => exact ⟨2 * x, by omega, by go_num, HR2, hf⟩
          case measure => simp [intOf]; omega
        · have b0 : (u == 0) = false := by simp [hu0]
          have hbr : brC kind m ms bs x = afterC btM (fitsD kind) ms (bs ++ [x]) := by unfold brC btM; rw [hu, if_pos (by simp [hu0])]
          have HI : Hid (∀ (w : World) (B2 : Option Addr) (d2 : Nat), Fr0 W w → w.ownsRow W.heap.size 3 1 (.slice B2 (bs.length + 1) d2) (bs.length + 1) (intsI (bs ++ [x])) → Hid (Calls Try.prog 37 #[.int .i64 kind, .slice (some ⟨bk, o, none⟩) xs.length c, .slice B2 (bs.length + 1) d2] w (Rets (AfterPost w (brC kind m ms bs x))))) := Lib.hid (fun w B2 d2 f g => Lib.hid (hbr ▸ (HIH x).out w B2 d2 _ rfl f g))
          have hsz := hf.size
          have hb8 : bs.length * 8 ≤ 140737488355328 := by omega
          clear hbr hu0 hx
          unfold AfterPost at HI
          cases hA : brC kind m ms bs x with
          | none =>
            have HR2 : Hid (remC kind m ms bs 1 = remC kind m ms bs (2 * x)) := Lib.hid (HR.out.trans (rem_no hx3 hA))
            rw [hA] at HI
            have HI2 := Lib.hid HI.out
            clear hA HI
            go_wp2_with (first
              | (go_at_call 37; refine ((HI2.out w2 A2 c2 hF2 hown2).out).mono ?_; rintro e w3 ⟨_, rfl, hf3, A3, n3, c3, rfl⟩)
              | (at_builtin; refine wpList_append_own _ rfl _ _ 22 rfl W.heap.size 3 i0 (.int .i64 0) 1 8 Try.underlying22 hi hz0 hz1 hz2 rfl (by decide) _ _ _ rfl (own_fr0 hown1 (fr_alloc _ _ _)) _ 1 1 [.int .i64 x] rfl rfl (cell_one_new _ _ _) (by simp [Value.oneCell']) (by unfold maxLen; omega) (by omega) (by have := hF1.size; simp; omega) ?_; intro v2 w2 hown2 hgrow _; rw [intsI_snoc] at hown2; obtain ⟨A2, c2, rfl⟩ := own_form hown2; have hF2 : Fr0 W w2 := (hF1.alloc _).trans (append_fr0 (own_fr0 hown1 (fr_alloc _ _ _)) hgrow) (fun j hj e => own_old hown1 hj e))
              | (at_builtin; refine wpList_append_lit (B := W.heap.size) (ys := bs) (A := B) (c := d) (N := wr.heap.size) rfl (.tmp 36) (.tmp 37) rfl rfl rfl HP.out hb8 (World.alloc_heap_new _ _) hsz (HB.out.fr0 (hf.alloc _)) ?_; intro v1 w1 hown1 hf1; have hF1 : Fr0 W w1 := (hf.alloc _).trans0 hf1))
            go_roundw
            case rel => exact ⟨2 * x, by omega, by go_num, HR2, hF2.trans0 hf3⟩
            case measure => simp [intOf]; omega
          | some l =>
            have HR2 : Hid (remC kind m ms bs 1 = some l) := Lib.hid (HR.out.trans (rem_yes hx3 hA))
            rw [hA] at HI
            have HI2 := Lib.hid HI.out
            clear hA HI
            go_wp2_with (first
              | (go_at_call 37; refine ((HI2.out w2 A2 c2 hF2 hown2).out).mono ?_; rintro e w3 ⟨_, rfl, hf3, A3, c3, rfl, hi3, hp3⟩)
              | (at_builtin; refine wpList_append_own _ rfl _ _ 22 rfl W.heap.size 3 i0 (.int .i64 0) 1 8 Try.underlying22 hi hz0 hz1 hz2 rfl (by decide) _ _ _ rfl (own_fr0 hown1 (fr_alloc _ _ _)) _ 1 1 [.int .i64 x] rfl rfl (cell_one_new _ _ _) (by simp [Value.oneCell']) (by unfold maxLen; omega) (by omega) (by have := hF1.size; simp; omega) ?_; intro v2 w2 hown2 hgrow _; rw [intsI_snoc] at hown2; obtain ⟨A2, c2, rfl⟩ := own_form hown2; have hF2 : Fr0 W w2 := (hF1.alloc _).trans (append_fr0 (own_fr0 hown1 (fr_alloc _ _ _)) hgrow) (fun j hj e => own_old hown1 hj e))
              | (at_builtin; refine wpList_append_lit (B := W.heap.size) (ys := bs) (A := B) (c := d) (N := wr.heap.size) rfl (.tmp 36) (.tmp 37) rfl rfl rfl HP.out hb8 (World.alloc_heap_new _ _) hsz (HB.out.fr0 (hf.alloc _)) ?_; intro v1 w1 hown1 hf1; have hF1 : Fr0 W w1 := (hf.alloc _).trans0 hf1))
            go_ret2
            rw [HR2.out]
            exact ⟨_, rfl, hF2.trans0 hf3, A3, c3, rfl, hi3, hp3⟩
end Go.Proofs.Ytjijoghbcbdohaa
