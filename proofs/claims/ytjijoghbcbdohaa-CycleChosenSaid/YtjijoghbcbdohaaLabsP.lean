/- The first labels, by greed: the program's answer, walked. -/
import Derived.Test.YtjijoghbcbdohaaLabs1
namespace Go.Proofs.Ytjijoghbcbdohaa
set_option linter.all false
open Go.RowKit
set_option maxRecDepth 100000

/-- The label that is taken. -/
def pickL (p : Int → Bool) : Int := if p 1 = true then 1 else if p 2 = true then 2 else if p 4 = true then 4 else 1
/-- Labels, and how many of them count, of the first k masks. -/
def stL (a b c d : Int) (xs : List Int) : Nat → List Int × Nat
  | 0 => ([], 0)
  | k + 1 => let x := pickL (labB (xs.getD k 0) a b c d (stL a b c d xs k).2 (xs.drop (k + 1)))
    ((stL a b c d xs k).1 ++ [x], (stL a b c d xs k).2 + if (x == b) = true then 1 else 0)
theorem stL_len (a b c d : Int) (xs : List Int) : ∀ k, (stL a b c d xs k).1.length = k
  | 0 => rfl
  | k + 1 => by simp [stL, stL_len a b c d xs k]
theorem stL_had (a b c d : Int) (xs : List Int) : ∀ k, (stL a b c d xs k).2 ≤ k
  | 0 => Nat.le_refl _
  | k + 1 => by
    have := stL_had a b c d xs k
    simp only [stL]
    split <;> omega
/-- Which index is taken. -/
theorem pick_idx (p : Int → Bool) : ∃ (i : Nat), i < 3 ∧ (max 0 (idxFI p [1, 2, 4]) = (i : Int)) ∧ ([1, 2, 4] : List Int).getD i 0 = pickL p := by
  unfold idxFI pickL
  cases h1 : p 1 with
  | true => exact ⟨0, by omega, by simp [List.findIdx?_cons, h1], by simp⟩
  | false =>
    cases h2 : p 2 with
    | true => exact ⟨1, by omega, by simp [List.findIdx?_cons, h1, h2]; rfl, by simp⟩
    | false =>
      cases h4 : p 4 with
      | true => exact ⟨2, by omega, by simp [List.findIdx?_cons, h1, h2, h4]; rfl, by simp⟩
      | false => exact ⟨0, by omega, by simp [List.findIdx?_cons, h1, h2, h4]; rfl, by simp⟩
/-- The program's labels. -/
def labelsP (kind : Int) (xs : List Int) : Option (List Int) := match needK kind with
  | none => none
  | some n => if xs.length < 2 ∨ canN n 0 xs = false then none else some (stL n.may n.counts n.least (mostN n) xs xs.length).1
theorem own_baseI {W : World} {e size B B0 n : Nat} {v : Value} {xs : List Value} (h : W.ownsRow B e size v n xs) (hB : B0 ≤ B) : W.ownsRow B0 e size v n xs := by
  refine ⟨h.1, h.2.imp id ?_⟩
  rintro ⟨g, cap, cur, rfl, hb, rest⟩
  exact ⟨g, cap, cur, rfl, Nat.le_trans hB hb, rest⟩
def NoPost (W : World) (v : Value) (w' : World) : Prop := v = .tuple #[.slice none 0 0, .bool false] ∧ Fr0 W w'
def YesPost (W : World) (l : List Int) (v : Value) (w' : World) : Prop := Fr0 W w' ∧ ∃ A c, v = .tuple #[.slice A l.length c, .bool true] ∧ w'.ownsRow W.heap.size 3 1 (.slice A l.length c) l.length (intsI l)
set_option maxHeartbeats 4000000 in
theorem Labels_no {W : World} {kind : Int} (hk : (Lit.int .i64 kind).wf = true) {A : Option Addr} {cp : Nat} {xs : List Int} (h : IntsAt W A xs) (hsm : xs.length ≤ 1000) (hno : labelsP kind xs = none) :
    Calls Try.prog 18 #[.int .i64 kind, .slice A xs.length cp] W (Rets (NoPost W)) := by
  have hb := Box.new W 22 (.slice A xs.length cp)
  have hF0 : Fr0 W (W.alloc (.cells #[.slice A xs.length cp] 22)) := fr_alloc _ _ _
  have HX := Lib.hid (h.fr0 hF0)
  have HF0 := Lib.hid hF0
  have HN := Lib.hid (Needs_is (W := W.alloc (.cells #[.slice A xs.length cp] 22)) hk)
  clear h hF0
  unfold NeedPost at HN
  unfold labelsP at hno
  cases hK : needK kind with
  | none =>
    rw [hK] at HN
    clear hK hno
    go_enter Try.func18, Try.ntmps18
    go_wp2_with (go_at_call 28; refine HN.out.mono ?_; rintro e w1 ⟨_, rfl, hf1, a, b, c, d, rfl, hn⟩; simp only [needV, Option.isSome_none])
    go_ret2
    exact ⟨_, rfl, rfl, (HF0.out.trans0 hf1).alloc _⟩
  | some n =>
    rw [hK] at HN hno
    simp only at hno
    clear hK
    obtain ⟨a, b, c, d, hn⟩ : ∃ a b c d : Int, nV n = needV a b c d := ⟨_, _, _, _, rfl⟩
    have HNN := Lib.hid hn
    by_cases h2 : xs.length < 2
    · have h2' : (xs.length : Int) < 2 := by omega
      clear hno h2 hn
      go_enter Try.func18, Try.ntmps18
      go_wp2_with (go_at_call 28; refine HN.out.mono ?_; rintro e w1 ⟨_, rfl, hf1, a', b', c', d', rfl, hn⟩; rw [(hn n rfl).trans HNN.out]; clear hn; simp only [needV, Option.isSome_some]; have hq := (hb.fr0 (hf1.alloc (.cells #[.int .i64 a, .int .i64 b, .int .i64 c, .int .i64 d] 40))).cell)
      go_ret2
      exact ⟨_, rfl, rfl, (HF0.out.trans0 hf1).alloc _⟩
    · have h2' : ¬ (xs.length : Int) < 2 := by omega
      have hc : canN n 0 xs = false := by
        by_cases hc : canN n 0 xs = false
        · exact hc
        · rw [if_neg (by simp [h2, hc])] at hno; cases hno
      clear hno h2
      have HC : ∀ w, Fr0 (W.alloc (.cells #[.slice A xs.length cp] 22)) w → Hid (Calls Try.prog 33 #[needV n.may n.counts n.least (mostN n), .int .i64 0, .slice A xs.length cp] w (Rets (SamePost false w))) := fun w hw => Lib.hid (hc ▸ Can_is (cp := cp) (had := 0) (HX.out.fr0 hw) (by omega) (by omega))
      have HC2 := Lib.hid HC
      rw [show needV (n.may : Int) n.counts n.least (mostN n) = nV n from rfl, hn] at HC2
      simp only [needV] at HC2
      clear HC hc hn
      go_enter Try.func18, Try.ntmps18
      go_wp2_with (first | (go_at_call 33; refine (HC2.out _ (hf1.alloc _)).out.mono ?_; rintro e w4 ⟨_, rfl, rfl, hf4⟩) | (go_at_call 28; refine HN.out.mono ?_; rintro e w1 ⟨_, rfl, hf1, a', b', c', d', rfl, hn⟩; rw [(hn n rfl).trans HNN.out]; clear hn; simp only [needV, Option.isSome_some]; have hq := (hb.fr0 (hf1.alloc (.cells #[.int .i64 a, .int .i64 b, .int .i64 c, .int .i64 d] 40))).cell))
      go_ret2
      exact ⟨_, rfl, rfl, ((HF0.out.trans0 hf1).alloc _).trans0 hf4⟩
set_option maxHeartbeats 8000000 in
theorem Labels_yes {W : World} {kind : Int} (hk : (Lit.int .i64 kind).wf = true) {A : Option Addr} {cp : Nat} {xs : List Int} (h : IntsAt W A xs) (hp : Plain A xs.length cp) (hcp : xs.length ≤ cp) (hsm : xs.length ≤ 1000) {l : List Int} (hyes : labelsP kind xs = some l) :
    Calls Try.prog 18 #[.int .i64 kind, .slice A xs.length cp] W (Rets (YesPost W l)) := by
  have hb := Box.new W 22 (.slice A xs.length cp)
  have hF0 : Fr0 W (W.alloc (.cells #[.slice A xs.length cp] 22)) := fr_alloc _ _ _
  have HX := Lib.hid (h.fr0 hF0)
  have HF0 := Lib.hid hF0
  have HN := Lib.hid (Needs_is (W := W.alloc (.cells #[.slice A xs.length cp] 22)) hk)
  clear h hF0
  unfold NeedPost at HN
  unfold labelsP at hyes
  cases hK : needK kind with
  | none => rw [hK] at hyes; cases hyes
  | some n =>
    rw [hK] at HN hyes
    simp only at hyes
    clear hK
    obtain ⟨a, b, c, d, hn, hcan, hl2, hll⟩ : ∃ a b c d : Int, nV n = needV a b c d ∧ canI a b c d 0 xs = true ∧ 2 ≤ xs.length ∧ (stL a b c d xs xs.length).1 = l := by
      refine ⟨_, _, _, _, rfl, ?_⟩
      by_cases hc : xs.length < 2 ∨ canN n 0 xs = false
      · rw [if_pos hc] at hyes; cases hyes
      · rw [if_neg hc] at hyes
        simp at hc
        exact ⟨hc.2, hc.1, by cases hyes; rfl⟩
    have HNN := Lib.hid hn
    have HL := Lib.hid hll
    have h2' : ¬ (xs.length : Int) < 2 := by omega
    have HC : ∀ w, Fr0 (W.alloc (.cells #[.slice A xs.length cp] 22)) w → Hid (Calls Try.prog 33 #[needV a b c d, .int .i64 0, .slice A xs.length cp] w (Rets (SamePost true w))) := fun w hw => Lib.hid (hcan ▸ Can_is (cp := cp) (had := 0) (HX.out.fr0 hw) (by omega) (by omega))
    have HC2 := Lib.hid HC
    simp only [needV] at HC2
    clear HC hcan hn hyes hll
    go_enter Try.func18, Try.ntmps18
    go_wp2_with (first | (go_at_call 33; refine (HC2.out _ (hf1.alloc _)).out.mono ?_; rintro e w4 ⟨_, rfl, rfl, hf4⟩; have hq4 := ((hb.fr0 (hf1.alloc (.cells #[.int .i64 a, .int .i64 b, .int .i64 c, .int .i64 d] 40))).fr0 hf4).cell; have hqa := (((hb.fr0 (hf1.alloc (.cells #[.int .i64 a, .int .i64 b, .int .i64 c, .int .i64 d] 40))).fr0 hf4).fr0 (fr_alloc _ w4 (.cells #[.int .i64 0] 3))).cell) | (go_at_call 28; refine HN.out.mono ?_; rintro e w1 ⟨_, rfl, hf1, a', b', c', d', rfl, hn⟩; rw [(hn n rfl).trans HNN.out]; clear hn; simp only [needV, Option.isSome_some]; have hq := (hb.fr0 (hf1.alloc (.cells #[.int .i64 a, .int .i64 b, .int .i64 c, .int .i64 d] 40))).cell))
    have HCP := Lib.hid (And.intro hp hcp)
    clear hp hcp hq hq4 hqa HC2 HN HNN
    have h4a := (FourB.new w1 a b c d).fr0 hf4
    have hb4 := (hb.fr0 (hf1.alloc (.cells #[.int .i64 a, .int .i64 b, .int .i64 c, .int .i64 d] 40))).fr0 hf4
    have HF4 : Hid (Fr0 (W.alloc (.cells #[.slice A xs.length cp] 22)) w4) := Lib.hid ((hf1.alloc _).trans0 hf4)
    have s0 := hf1.size
    have s1 := hf4.size
    rw [World.size_alloc] at s0 s1
    clear hf1 hf4 hb
    obtain ⟨bq, hbq⟩ : ∃ bq, bq = W.heap.size := ⟨_, rfl⟩
    obtain ⟨bn, hbn⟩ : ∃ bn, bn = w1.heap.size := ⟨_, rfl⟩
    have HB : Hid (bq = W.heap.size ∧ bn = w1.heap.size) := Lib.hid ⟨hbq, hbn⟩
    rw [← hbq] at hb4 s0 ⊢
    rw [← hbn] at h4a s0 s1 ⊢
    clear hbq hbn
    obtain ⟨w5, hw5⟩ : ∃ w5, w5 = w4.alloc (.cells #[.int .i64 0] 3) := ⟨_, rfl⟩
    have F45 : Fr0 w4 w5 := by rw [hw5]; exact fr_alloc _ _ _
    have s5 : w5.heap.size = w4.heap.size + 1 := by rw [hw5, World.size_alloc]
    have hb5 : Box w5 w4.heap.size 3 (.int .i64 (0 : Nat)) := by rw [hw5]; exact Box.new _ _ _
    rw [← hw5]
    clear hw5
    have h4b := h4a.fr0 F45
    have hbq5 := hb4.fr0 F45
    have HF5 := Lib.hid (HF4.out.trans0 F45)
    clear h4a hb4 F45 HF4
    obtain ⟨bh, hbh⟩ : ∃ bh, bh = w4.heap.size := ⟨_, rfl⟩
    rw [← hbh] at s1 s5 hb5 ⊢
    have HBH := Lib.hid hbh
    clear hbh
    obtain ⟨i0, hi, hz0, hz1, hz2⟩ := info_parts info_int
    go_loopw [9, 10, 11, 12, 13, 14, 35] (fun v9 v10 v11 v12 v13 v14 v35 wr => ∃ (k had : Nat) (L : List Int), k ≤ xs.length ∧ v35 = .int .i64 k ∧ Hid (stL a b c d xs k = (L, had)) ∧ had ≤ k ∧ Hid (L.length = k) ∧ Fr (fun j => j = bh) w5 wr ∧ Box wr bh 3 (.int .i64 had) ∧ Hid (wr.ownsRow (bh + 1) 3 1 v9 k (intsI L))) (fun _ _ _ _ _ _ v35 _ => xs.length - (intOf v35).toNat)
    case atStart => exact ⟨0, 0, [], by omega, rfl, Lib.hid rfl, by omega, Lib.hid rfl, Fr.refl _ _, hb5, Lib.hid (own_nil _ _ _ _)⟩
    case round =>
      obtain ⟨k, had, L, hk2, rfl, HST, hhk, HLL, hfr, hbh2, HO⟩ := hrel
      obtain ⟨A9, c9, rfl⟩ := own_form HO.out
      by_cases hlt : k < xs.length
      · have hlt' : (k : Int) < (xs.length : Int) := by omega
        have HFW : Hid (Fr0 (W.alloc (.cells #[.slice A xs.length cp] 22)) wr) := Lib.hid (HF5.out.trans hfr (fun j hj e => absurd e (by have := HB.out.1; rw [World.size_alloc] at hj; omega)))
        have h4r := h4b.fr hfr (by omega)
        have hbqr := hbq5.fr hfr (by omega)
        have hxr := HX.out.fr0 HFW.out
        obtain ⟨bx, ox, rfl, hc⟩ := hxr.at_ hlt
        have hsr := hfr.size
        generalize hm : xs.getD k 0 = m at hc
        have HM := Lib.hid hm
        clear hm
        have F6 : Fr0 wr ((wr.alloc (.cells #[.int .i64 k] 3)).alloc (.cells #[.int .i64 m] 3)) := (fr_alloc _ _ _).alloc _
        have hK6 : LabK (wr.heap.size + 1) bn bh bq wr.heap.size m a b c d had k (some ⟨bx, ox, none⟩) cp xs ((wr.alloc (.cells #[.int .i64 k] 3)).alloc (.cells #[.int .i64 m] 3)) :=
          ⟨by have := Box.new (wr.alloc (.cells #[.int .i64 k] 3)) 3 (.int .i64 m); rwa [World.size_alloc] at this, h4r.fr0 F6, hbh2.fr0 F6, hbqr.fr0 F6, (Box.new wr 3 (.int .i64 k)).fr0 (fr_alloc _ _ _), hxr.fr0 F6⟩
        obtain ⟨i, hi3, hmax, hpick⟩ := pick_idx (labB m a b c d had (xs.drop (k + 1)))
        obtain ⟨r, hr⟩ : ∃ r, idxFI (labB m a b c d had (xs.drop (k + 1))) [1, 2, 4] = r := ⟨_, rfl⟩
        rw [hr] at hmax
        obtain ⟨x, hx⟩ : ∃ x, pickL (labB m a b c d had (xs.drop (k + 1))) = x := ⟨_, rfl⟩
        rw [hx] at hpick
        have HST2 : Hid (stL a b c d xs (k + 1) = (L ++ [x], had + if (x == b) = true then 1 else 0)) := Lib.hid (by simp only [stL, HST.out, HM.out, hx])
        have HIx : ∀ w g, Fr0 ((wr.alloc (.cells #[.int .i64 k] 3)).alloc (.cells #[.int .i64 m] 3)) w → IntsAt w (some ⟨g, 0, none⟩) [1, 2, 4] → Hid (Calls Try.prog 36 #[.slice (some ⟨g, 0, none⟩) 3 3, .func (.func 35) #[] #[.pointer (some ⟨wr.heap.size + 1, 0, none⟩), .pointer (some ⟨bn, 0, none⟩), .pointer (some ⟨bh, 0, none⟩), .pointer (some ⟨bq, 0, none⟩), .pointer (some ⟨wr.heap.size, 0, none⟩)]] w (Rets (IdxPostI r w))) := fun w g hw hg =>
          Lib.hid (labs_idx HCP.out.1 HCP.out.2 hlt (by omega) (by omega) hr hg (hK6.fr0 hw))
        have HIx2 := Lib.hid HIx
        have HK6 := Lib.hid hK6
        have HHR := Lib.hid hr
        have HHX := Lib.hid hx
        have HPI := Lib.hid hpick
        have HF6 := Lib.hid F6
        have hi3' : (i : Int) < 3 := by omega
        clear HIx hK6 hr hx hpick h4r hbqr F6 hxr
        have HOW1 : Hid (∀ w8, Fr0 wr w8 → ∀ u o, ((w8.setCell ⟨bh, 0, none⟩ u).alloc o).ownsRow (bh + 1) 3 1 (.slice A9 k c9) k (intsI L)) := Lib.hid (fun w8 f u o => own_fr0 (own_fr (own_fr0 HO.out f) (fr_setCell (S := fun j => j = bh) _ _ _ (fun _ => rfl)) (fun q hq e => own_old HO.out (k := bh) (by omega) (e ▸ hq))) (fr_alloc _ _ _))
        have HOW0 : Hid (∀ w8, Fr0 wr w8 → ∀ o, (w8.alloc o).ownsRow (bh + 1) 3 1 (.slice A9 k c9) k (intsI L)) := Lib.hid (fun w8 f o => own_fr0 (own_fr0 HO.out f) (fr_alloc _ _ _))
        have HCN : Hid (∀ (w8 : World) (u : Value) (j : Nat) (v : Value), [Value.int .i64 x][j]? = some v → ((w8.setCell ⟨bh, 0, none⟩ u).alloc (.cells #[.int .i64 x] 3)).cell? ((⟨w8.heap.size, 0, none⟩ : Addr).add j) = some v) := Lib.hid (fun w8 u => by
          have := cell_one_new (w8.setCell ⟨bh, 0, none⟩ u) (.int .i64 x) 3
          rwa [World.size_setCell] at this)
        have hszr : bh + 1 ≤ wr.heap.size := by omega
        cases hxb : (x == b) with
        | true =>
          rw [hxb] at HST2
          go_wp2_with (first
          | (go_at_call 36; refine (HIx2.out _ _ hf7 h7).out.mono ?_; rintro e w8 ⟨_, rfl, rfl, hf8⟩; obtain ⟨_, _, ⟨⟩, hg8⟩ := (h7.fr0 hf8).at_ (k := i) hi3; rw [HPI.out, Nat.zero_add] at hg8; have hK8 := HK6.out.fr0 (hf7.trans0 hf8); have hk8 := hK8.n.c1; have hh8 := hK8.h.cell; have hz8 := hK8.h.frozen; have HF8 := Lib.hid (HF6.out.trans0 (hf7.trans0 hf8)); clear hK8)
          | (go_at_call 31; refine (single_g _).mono ?_; rintro e w7 ⟨_, rfl, g, rfl, hf7, hsz7, h7⟩)
            | (at_builtin; go_loud (refine wpList_append_own _ rfl _ _ 22 rfl (bh + 1) 3 i0 (.int .i64 0) 1 8 Try.underlying22 hi hz0 hz1 hz2 rfl (by decide) _ _ _ rfl (HOW1.out _ HF8.out _ _) _ 1 1 [.int .i64 x] rfl rfl (HCN.out _ _) (by simp [Value.oneCell']) (by unfold maxLen; omega) (by omega) (by have := HF8.out.size; simp; omega) ?_; intro v' w2 hown' hgrow _)))
          go_roundw
          case rel =>
            have hgf := append_fr0 (HOW1.out _ HF8.out _ _) hgrow
            have F := ((((hfr.trans0 HF8.out).setCell ⟨bh, 0, none⟩ (.int .i64 ((had : Int) + 1)) (fun _ => rfl)).alloc (.cells #[.int .i64 x] 3)).trans hgf (fun j hj e => absurd e (own_old HO.out (by omega))))
            have hbx : Box w2 bh 3 (.int .i64 ((had : Int) + 1)) := (((hbh2.fr0 HF8.out).set (.int .i64 ((had : Int) + 1))).fr0 (fr_alloc _ _ _)).fr hgf (own_old HO.out (by omega))
            rw [intsI_snoc] at hown'
            exact ⟨k + 1, had + 1, L ++ [x], by omega, by go_num, Lib.hid (HST2.out.trans (by simp)), by omega, Lib.hid (by simp [HLL.out]), F, hbx, Lib.hid hown'⟩
          case measure => simp [intOf]; omega
        | false =>
          rw [hxb] at HST2
          go_wp2_with (first
          | (go_at_call 36; refine (HIx2.out _ _ hf7 h7).out.mono ?_; rintro e w8 ⟨_, rfl, rfl, hf8⟩; obtain ⟨_, _, ⟨⟩, hg8⟩ := (h7.fr0 hf8).at_ (k := i) hi3; rw [HPI.out, Nat.zero_add] at hg8; have hK8 := HK6.out.fr0 (hf7.trans0 hf8); have hk8 := hK8.n.c1; have hh8 := hK8.h.cell; have hz8 := hK8.h.frozen; have HF8 := Lib.hid (HF6.out.trans0 (hf7.trans0 hf8)); clear hK8)
          | (go_at_call 31; refine (single_g _).mono ?_; rintro e w7 ⟨_, rfl, g, rfl, hf7, hsz7, h7⟩)
            | (at_builtin; go_loud (refine wpList_append_own _ rfl _ _ 22 rfl (bh + 1) 3 i0 (.int .i64 0) 1 8 Try.underlying22 hi hz0 hz1 hz2 rfl (by decide) _ _ _ rfl (HOW0.out _ HF8.out _) _ 1 1 [.int .i64 x] rfl rfl (cell_one_new _ _ _) (by simp [Value.oneCell']) (by unfold maxLen; omega) (by omega) (by have := HF8.out.size; simp; omega) ?_; intro v' w2 hown' hgrow _)))
          go_roundw
          case rel =>
            have hgf := append_fr0 (HOW0.out _ HF8.out _) hgrow
            have F := (((hfr.trans0 HF8.out).alloc (.cells #[.int .i64 x] 3)).trans hgf (fun j hj e => absurd e (own_old HO.out (by omega))))
            have hbx : Box w2 bh 3 (.int .i64 had) := ((hbh2.fr0 HF8.out).fr0 (fr_alloc _ _ _)).fr hgf (own_old HO.out (by omega))
            rw [intsI_snoc] at hown'
            exact ⟨k + 1, had, L ++ [x], by omega, by go_num, Lib.hid (HST2.out.trans (by simp)), by omega, Lib.hid (by simp [HLL.out]), F, hbx, Lib.hid hown'⟩
          case measure => simp [intOf]; omega
      · have hke : k = xs.length := by omega
        subst hke
        have hge : ¬ (xs.length : Int) < (xs.length : Int) := by omega
        go_wp2_with fail
        go_ret2
        have hL : L = l := by have := HL.out; rw [HST.out] at this; exact this
        subst hL
        have h9 := HO.out
        have h8 := HLL.out
        have hB := HBH.out
        have hB2 := HB.out.1
        have FW := HF0.out.trans0 HF5.out
        have hs9 := HF0.out.size
        refine ⟨_, rfl, FW.trans hfr (fun j hj e => absurd e (by have h1 := HF5.out.size; have h2 := HB.out.1; rw [World.size_alloc] at h1; omega)), A9, c9, by rw [h8]; rfl, ?_⟩
        rw [h8]
        exact own_baseI h9 (by omega)
end Go.Proofs.Ytjijoghbcbdohaa
